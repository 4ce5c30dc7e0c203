import Derived.Test.YtfjgmdmfnjaoaaaGreatDoorAtGM
import Derived.Test.YtfjgmdmfnjaoaaaGreatDoorAtGJ
import Derived.Test.YtfjgmdmfnjaoaaaGreatDoorAtGI
import Derived.Test.YtfjgmdmfnjaoaaaGreatDoorAtGK
import Derived.Test.YtfjgmdmfnjaoaaaGreatDoorRnGH
set_option maxRecDepth 100000
set_option maxHeartbeats 8000000
set_option linter.unusedSimpArgs false
set_option linter.unusedVariables false
section
open Go Go.Rn Go.RowKit Go.Proofs
namespace Gy
open cv fW eH gO nQ nE zO BB qJ tT fc cG dt ER vT xK uA qx cR cW fw eV fL fN fS gg fT gh gP gQ g9 ia iF iW jH jI fy gZ ni pO pP rV rW BZ xO
variable {tx:List St}
def zT:Nat->Int->List St->Prop
 |0,_,_=>False
 |k+1,n,l=>∀s∈l,mG s n=true/\zT k n (cn s)/\zT k n (cj s)
theorem Vg{k:Nat}{n:Int}(he:∀l p,fD gw k l (.int .i64 n) (.bool false)=some p->p.ret=true->zT k n l):∀r p,kG (fD gw k) gw r (.int .i64 n) (.bool false)=some p->p.ret=true->∀s∈r,mG s n=true/\zT k n (cn s)/\zT k n (cj s)
 |[],_,_,_,s,hs=>by cases hs
 |t::r,p,h,hp,s,hs=>by
  unfold kG at h;split at h
  ·cases h
  rename_i p1 e1;obtain⟨n',⟨eZ,_⟩,hq⟩:=Oc e1;injection eZ with _ eZ
  subst eZ;cases Q9:mG t n with
  |false=>
   rw[Q9,if_neg (by intro q;cases q)] at hq;subst hq;have h:some (pN n)=some p:=h;injection h with h;subst h
   cases hp
  |true=>
   rw[Q9,if_pos rfl] at hq;subst hq;have h:(match fD gw k (cn t) (.int .i64 n) (.bool false) with
    |none=>none
    |some q=>match q.ret with
     |false=>some q
     |true=>match fD gw k (cj t) q.v1 q.v2 with
      |none=>none
      |some u=>match u.ret with
       |false=>some u
       |true=>kG (fD gw k) gw r u.v1 u.v2)=some p:=h
   split at h
   ·cases h
   rename_i q2 e2;rcases Ay k _ _ e2 with rfl|rfl
   ·have h:(match fD gw k (cj t) (.int .i64 n) (.bool false) with
     |none=>none
     |some u=>match u.ret with
      |false=>some u
      |true=>kG (fD gw k) gw r u.v1 u.v2)=some p:=h
    split at h
    ·cases h
    rename_i q3 e3;rcases Ay k _ _ e3 with rfl|rfl
    ·have h:kG (fD gw k) gw r (.int .i64 n) (.bool false)=some p:=h;rcases List.mem_cons.1 hs with rfl|hs
     ·exact⟨Q9,he _ _ e2 rfl,he _ _ e3 rfl⟩
     ·exact Vg he r p h hp s hs
    ·have h:some (pN n)=some p:=h;injection h with h;subst h;cases hp
   ·have h:some (pN n)=some p:=h;injection h with h;subst h;cases hp
theorem AM{n:Int}:∀k l p,fD gw k l (.int .i64 n) (.bool false)=some p->p.ret=true->zT k n l
 |0,_,_,h,_=>by cases h
 |k+1,l,p,h,hp=>by
  unfold fD at h;split at h
  ·exact Vg (AM k) l p h hp
  ·cases h
theorem Oq(x y:Int):x<=cP x y/\y<=cP x y:=by
 unfold cP;split<;>rename_i q
 ·have:=of_decide_eq_true q;omega
 ·have:=of_decide_eq_false q;omega
theorem Pw{k:Nat}:∀(l:List St) (m:Int),m<=l.foldl (fun m s=>jx (cn s).length (cj s).length m (fp k<|cn s)<|fp k<|cj s) m/\∀s∈l,(cn s≠[]->fp k (cn s)<=l.foldl (fun m s=>jx (cn s).length (cj s).length m (fp k<|cn s)<|fp k<|cj s) m)/\(cj s≠[]->fp k (cj s)<=l.foldl (fun m s=>jx (cn s).length (cj s).length m (fp k<|cn s)<|fp k<|cj s) m)
 |[],m=>⟨Int.le_refl _,fun s h=>by cases h⟩
 |t::l,m=>by
  have one:m<=jx (cn t).length (cj t).length m (fp k<|cn t) (fp k<|cj t)/\(cn t≠[]->fp k (cn t)<=jx (cn t).length (cj t).length m (fp k<|cn t) (fp k<|cj t))/\(cj t≠[]->fp k (cj t)<=jx (cn t).length (cj t).length m (fp k<|cn t) (fp k<|cj t)):=by
   have g1:=Oq m<|fp k<|cn t;have g2:=Oq (cP m<|fp k<|cn t)<|fp k<|cj t;have g3:=Oq m<|fp k<|cj t;unfold jx;by_cases c1:0<(cj t).length<;>by_cases c2:0<(cn t).length
   ·rw[if_pos c1,if_pos c2];exact⟨by omega,fun _=>by omega,fun _=>by omega⟩
   ·rw[if_pos c1,if_neg c2];exact⟨by omega,fun q=>absurd (List.length_pos_iff.2 q) c2,fun _=>by omega⟩
   ·rw[if_neg c1,if_pos c2];exact⟨by omega,fun _=>by omega,fun q=>absurd (List.length_pos_iff.2 q) c1⟩
   ·rw[if_neg c1,if_neg c2];exact⟨Int.le_refl _,fun q=>absurd (List.length_pos_iff.2 q) c2,fun q=>absurd (List.length_pos_iff.2 q) c1⟩
  obtain⟨a1,a2⟩:=Pw (k:=k) l<|jx (cn t).length (cj t).length m (fp k<|cn t)<|fp k<|cj t;rw[List.foldl_cons];refine⟨Int.le_trans one.1 a1,fun s hs=>?_⟩;rcases List.mem_cons.1 hs with rfl|hs
  ·exact⟨fun q=>Int.le_trans (one.2.1 q) a1,fun q=>Int.le_trans (one.2.2 q) a1⟩
  ·exact a2 s hs
theorem ZQ{s:St}{n:Int}(h:mG s n=true)(hk:0<=iQ s):(1<=iQ s/\iQ s<=8)/\(0<=D4 s/\D4 s<8):=by
 obtain⟨kind,to,a,b,bd,el⟩:=s;have h:Ag (p0 kind) to a b bd el n=true:=h;have hk:0<=kind:=hk;show(1<=kind/\kind<=8)/\(0<=to/\to<8);have HE:∀l,Ag l to a b bd el n=true->0<=to/\to<8:=fun l h=>by
  unfold Ag at h;split at h
  ·obtain⟨_,h⟩:=and_true.1 h;obtain⟨h,_⟩:=and_true.1 h;exact of_decide_eq_true h
  ·cases h
 refine⟨?_,HE _ h⟩;by_cases c:kind<=8
 ·refine⟨?_,c⟩;by_cases c0:kind=0
  ·subst c0;exfalso;have e:p0 0=[false,false,false,false,false,false]:=rfl;rw[e] at h;cases h
  ·omega
 ·exfalso;have e:p0 kind=[false,false,false,false,false,false]:=by unfold p0;rw[List.getD_eq_getElem?_getD,List.getElem?_eq_none (show Lt.length<=kind.toNat by show 9<=kind.toNat;omega)];rfl
  rw[e] at h;cases h
def Ha:Nat->List St->Prop
 |0,_=>True
 |k+1,l=>∀s∈l,0<=iQ s/\Ha k (cn s)/\Ha k (cj s)
theorem Px{n:Int}:∀(d k:Nat) (l:List St),kR k l=true->zT k n l->Ha k l->fp k l<=d->oi d l
 |_,0,_,h,_,_,_=>by cases h
 |0,k+1,l,_,_,_,h=>by have h:l.foldl _ 0+1<=(0:Int):=h;have:=(Pw (k:=k) l 0).1;omega
 |d+1,k+1,l,hc,ha,hp,h=>by
  have h:l.foldl (fun m s=>jx (cn s).length (cj s).length m (fp k<|cn s)<|fp k<|cj s) 0+1<=((d+1:Nat):Int):=h;obtain⟨c1,c2⟩:=and_true.1 (show(decide (l.length<=1000000)&&l.all fun s=>kR k (cn s)&&kR k (cj s))=true from hc);refine⟨of_decide_eq_true c1,fun s hs=>?_⟩;obtain⟨a1,a2,a3⟩:=ha s hs;obtain⟨p1,p2,p3⟩:=hp s hs;obtain⟨e1,e2⟩:=and_true.1<|List.all_eq_true.1 c2 s hs;obtain⟨g1,g2⟩:=(Pw (k:=k) l 0).2 s hs;obtain⟨q1,q2⟩:=ZQ a1 p1;refine⟨q1,q2,?_,?_⟩
  ·by_cases z:cn s=[]
   ·rw[z];exact Vf d
   ·have:=g1 z;exact Px d k _ e1 a2 p2 ae
  ·by_cases z:cj s=[]
   ·rw[z];exact Vf d
   ·have:=g2 z;exact Px d k _ e2 a3 p3 ae
theorem ags{n:Int}(h:zP tx n true)(hc:kR 60 tx=true)(hp:Ha 60 tx):oi 6 tx:=by obtain⟨c1,c2,p,_,e,hb⟩:=h;obtain⟨h1,h2⟩:=and_true.1 hb.symm;obtain⟨h2,_⟩:=and_true.1 h2;have h1:=of_decide_eq_true h1;exact Px 6 60 tx hc (AM 60 tx p e h2) hp h1.2.2.1
theorem aeY{vars:Int}{aO:List Int}(h:oi 6 tx)(hg:aO.length<=1000)(hv:1<=vars/\vars<=32):∃st bb,lO 1000 [BG tx] [[]]=some (st,bb)/\mQ ⟨vars,aO,Z8,bb,st.reverse,0⟩:=by
 have hi:Inv [BG tx] [[]]:=⟨⟨h,⟨by show(0:Int)<=0;omega,by show(0:Int)<=_;omega⟩,⟨by show(0:Int)<=0;omega,by show(0:Int)<=7;omega⟩,rfl,fun c=>(by cases c),trivial⟩,rfl,OK⟩;obtain⟨ba,b',e,i,_⟩:=Ff 1000 _ _ hi (by have:=Oo hi.wf;have l1:[BG tx].length=1:=rfl;omega);refine⟨ba,b',e,?_,rfl,?_,hg,hv⟩
 ·show Inv ba.reverse.reverse b';rw[List.reverse_reverse];exact i
 ·show ba.reverse.reverse=[]\/∃f r,ba.reverse.reverse=f::r/\_;rw[List.reverse_reverse];exact CM _ _ _ _ _ e
end Gy
end
section
open Go Go.Rn Go.RowKit Go.Proofs
namespace yb
open cv cG cR cW eH fy gZ dt uA nQ nE ue qx
variable {k N L N0 L0:Nat} {v:AV} {dp i bT n0 c:Int} {B:aL}
noncomputable section
def rY(f:Ex->Int×Bool):List Ex->Int->Int×Bool
 |[],m=>(m,false)
 |a::r,m=>if(f a).2=true then(0,true) else if m+(f a).1>1000 then(0,true) else rY f r (m+(f a).1)
def dK:Nat->Ex->Int×Bool
 |0,_=>(0,true)
 |k+1,.mk _ _ args=>if k=0\/args.length>10 then(0,true) else rY (dK k) args 1
def pv(k:Nat)(args:List AV)(v:AV):Prop:=∃e:Ex,args=[.agg<|aD e,.int .i64<|22 - (k:Int)]/\(1<=k/\k<=22)/\v= .tuple [.int .i64 (dK k e).1,.bool (dK k e).2]
theorem pv.bW(args:List AV)(v v':AV)(h:pv k args v)(h':pv k args v'):v=v':=by obtain⟨e,rfl,_,rfl⟩:=h;obtain⟨e',h1,_,rfl⟩:=h';simp only[List.cons.injEq,AV.agg.injEq,_root_.and_true] at h1;rw[nw _ _ h1]
def oD(k:Nat):FuncId×KE:=(34,.val<|aW<|pv k)
def kg(f:List St->Int×Bool):List St->Int->Int×Bool
  |[],m=>(m,false)
  | s::r,m=>if(dK 22<|iq s).2=true\/(dK 22<|gu s).2=true\/(f<|cn s).2=true\/(f<|cj s).2=true then(0,true)
    else if m+1+(dK 22<|iq s).1+(dK 22<|gu s).1+(f<|cn s).1+(f<|cj s).1>3000 then(0,true)
    else kg f r (m+1+(dK 22<|iq s).1+(dK 22<|gu s).1+(f<|cn s).1+(f<|cj s).1)
def cX:Nat->List St->Int×Bool
 |0,_=>(0,true)
 |k+1,l=>if k=0\/l.length>500 then(0,true) else kg (cX k) l 0
def nf(k:Nat)(args:List AV)(v:AV):Prop:=∃l:List St,args=[.U (nm<|bA l) 0 l.length,.int .i64<|22 - (k:Int)]/\(1<=k/\k<=22)/\v= .tuple [.int .i64 (cX k l).1,.bool (cX k l).2]
theorem nf.bW(args:List AV)(v v':AV)(h:nf k args v)(h':nf k args v'):v=v':=by obtain⟨e,rfl,_,rfl⟩:=h;obtain⟨e',h1,_,rfl⟩:=h';simp only[List.cons.injEq,AV.U.injEq,true_and,_root_.and_true] at h1;rw[sN _ _<|ti (lL _) (lL _) h1.1]
def vI(k:Nat):FuncId×KE:=(17,.val<|aW<|nf k)
def Er(dp m i:Int):List<|Nat×AV:=[(1,(i6 dp)),(2,(.ptr<|some (270,0))),(6,(i6 m)),(7,(i6 i))]
def rZ(dp m i:Int):AF:=⟨34,aQ<|Er dp m i,(max Tryz.f34.ntmps 2),[.code<|a9 pg 34 [1,1,1,0,1,0,0],.inLoop<|a9 pg 34 [1,1,1,0,1,0,0],.inBlock 0,.code<|a9 pg 34 [1,1,1,1]],[],none⟩
def nu(op n:Int)(N L:Nat):List<|Nat×Option ab:=(ar++[(270,some<|.cells 3 (Tr.fill [(u8<|op),(i6 n),(.U N 0 L)] 0 .nil) [])])
theorem ajC(dp m i op n:Int)(N L:Nat):((Er dp m i).map (fun q=>some q.2)=(Er dp m i).map (fun q=>some q.2))/\((nu op n N L).map (fun q=>q.2)=(nu op n N L).map (fun q=>q.2))/\(rZ dp m i=rZ dp m i/\ak (nu op n N L) 271=ak (nu op n N L) 271):=⟨rfl,rfl,rfl,rfl⟩
theorem sdT{op n m:Int}(mc:Mt [oD k] B)(hn:top<=N)(hi:0<=i)(hL:L<=10)(hm:0<=m/\m<=1000)(ju:0<=c/\c<=1000)(hd:0<=dp/\dp<=20)(hx:cT FU N (0+i.toNat*3+0) 3=some [(u8<|bT),(i6 n0),(.U N0 0 L0)])(h1:i<(L:Int))(hc:bg (aW<|pv k) [(.agg [(u8<|bT),(i6 n0),(.U N0 0 L0)]),.int .i64<|dp+1]=some (.tuple [.int .i64 c,.bool true]))(hv:(.tuple [.int .i64 0,.bool true])=v):au pg B 270 (Fin pg (az Tryz.f34) fun y _=>y=v) (rZ dp m i)<|ak (nu op n N L) 271:=by exact wS mc (.st 2<|.rg<|.go 4<|.fk (.en<|.st 5<|.rg<|.go 3<|.fh<|.fj [(u8<|bT),(i6 n0),(.U N0 0 L0)]<|.go 1<|.vl (i6<|dp+1)<|.kn (.tuple [(i6 c),(.bool true)])<|.go 5<|.en<|.st 1<|.rg<|.go 2<|.vl (i6<|m+c)<|.go 1<|.en<|.rt 6 .no)<|.no)<|ax (i<(L:Int)) (fun _=>(dc i (L:Int)<|ai hn<|ai hx<|ai (wI<|dp+1)<|ai hc<|ai (wI<|m+c) (show(.tuple [i0,(.bool true)])=v from hv))) bF
theorem sdF{op n m:Int}(mc:Mt [oD k] B)(hn:top<=N)(hi:0<=i)(hL:L<=10)(hm:0<=m/\m<=1000)(ju:0<=c/\c<=1000)(hd:0<=dp/\dp<=20)(hx:cT FU N (0+i.toNat*3+0) 3=some [(u8<|bT),(i6 n0),(.U N0 0 L0)])(h1:i<(L:Int))(hc:bg (aW<|pv k) [(.agg [(u8<|bT),(i6 n0),(.U N0 0 L0)]),.int .i64<|dp+1]=some (.tuple [.int .i64 c,.bool false]))(hv:m+c>1000->(.tuple [.int .i64 0,.bool true])=v)(H:¬((m+c)>(1000:Int))->au pg B 270 (Fin pg (az Tryz.f34) fun y _=>y=v) (rZ dp (m+c)<|i+1) (ak (nu op n N L) 271)):au pg B 270 (Fin pg (az Tryz.f34) fun y _=>y=v) (rZ dp m i)<|ak (nu op n N L) 271:=by exact wC mc (C:=(fun fr s1 _=>fr=rZ dp (m+c) (i+1)/\s1=ak (nu op n N L) 271/\¬((m+c)>(1000:Int)))) (fun fr s1 p hC=>by obtain⟨rfl,rfl,hq⟩:=hC;exact H hq) (.st 2<|.rg<|.go 4<|.fk (.en<|.st 5<|.rg<|.go 3<|.fh<|.fj [(u8<|bT),(i6 n0),(.U N0 0 L0)]<|.go 1<|.vl (i6<|dp+1)<|.kn (.tuple [(i6 c),(.bool false)])<|.go 5<|.en<|.st 1<|.rg<|.go 2<|.vl (i6<|m+c)<|.go 1<|.en<|.st 1<|.rg<|.go 3<|.fk (.go 1<|.en<|.rt 4 .no)<|.go 1<|.en<|.st 3<|.rg<|.go 1<|.vl (i6<|i+1)<|.go 1<|.en<|.st 1<|.ls (Er dp (m+c)<|i+1) (nu op n N L) 271 .no)<|.no)<|ax (i<(L:Int)) (fun _=>(dc i (L:Int)<|ai hn<|ai hx<|ai (wI<|dp+1)<|ai hc<|ai (wI<|m+c)<|ax ((m+c)>1000) (fun _=>(show(.tuple [i0,(.bool true)])=v from hv ae)) fun _=>(ai (wI<|i+1)<|ai (mS<|Er dp (m+c)<|i+1)<|ai (mO<|nu op n N L) (show(rZ dp (m+c)<|i+1)=(rZ dp (m+c)<|i+1)/\(ak (nu op n N L) 271)=(ak (nu op n N L) 271)/\¬((m+c)>(1000:Int)) from⟨rfl,rfl,by omega⟩)))) bF
theorem sdE{op n m:Int}(mc:Mt [oD k] B)(h1:(L:Int)<=i)(hv:(.tuple [.int .i64 m,.bool false])=v):au pg B 270 (Fin pg (az Tryz.f34) fun y _=>y=v) (rZ dp m i)<|ak (nu op n N L) 271:=by exact wS mc (.st 2<|.rg<|.go 4<|.fk (.no)<|.en<|.rt 5 .no) W4
theorem sdG{op n:Int}(mc:Mt [oD k] B)(hd:dp<=20)(hL:L<=10)(H:au pg B 270 (Fin pg (az Tryz.f34) fun y _=>y=v) (rZ dp 1 0)<|ak (nu op n N L) 271):au pg B 270 (Fin pg (az Tryz.f34) fun y _=>y=v) (sF 34 Tryz.f34 [(.agg [(u8<|op),(i6 n),(.U N 0 L)]),(i6 dp)])<|ak ar 270:=by exact wC mc (C:=(fun fr s1 _=>fr=rZ dp 1 0/\s1=ak (nu op n N L) 271)) nr (.st 4<|.rg<|.go 1<|.fk (.no)<|.go 4<|.fk (.no)<|.go 1<|.en<|.st 9<|.ls (Er dp 1 0) (nu op n N L) 271 .no)<|ax (dp>20) bF fun _=>(ax ((L:Int)>10) bF fun _=>(ajC dp 1 0 op n N L))
theorem sdB{op n:Int}(mc:Mt [oD k] B)(hd:dp>20\/(L:Int)>10)(hv:(.tuple [.int .i64 0,.bool true])=v):au pg B 270 (Fin pg (az Tryz.f34) fun y _=>y=v) (sF 34 Tryz.f34 [(.agg [(u8<|op),(i6 n),(.U N 0 L)]),(i6 dp)])<|ak ar 270:=by exact wS mc (.st 4<|.rg<|.go 1<|.fk (.go 6<|.en<|.rt 4 .no)<|.go 4<|.fk (.go 1<|.en<|.rt 4 .no)<|.no)<|ax (dp>20) (fun _=>(show(.tuple [i0,(.bool true)])=v from hv)) fun _=>(ax ((L:Int)>10) (fun _=>(show(.tuple [i0,(.bool true)])=v from hv)) bF)
def Es(N L:Nat)(dp m i:Int):List<|Nat×AV:=[(0,(.U N 0 L)),(1,(i6 dp)),(6,(i6 m)),(7,(i6 i))]
def sa(N L:Nat)(dp m i:Int):AF:=⟨17,aQ<|Es N L dp m i,(max Tryz.f17.ntmps 2),[.code<|a9 pg 17 [1,1,1,0,1,0,0],.inLoop<|a9 pg 17 [1,1,1,0,1,0,0],.inBlock 0,.code<|a9 pg 17 [1,1,1,1]],[],none⟩
theorem ajD(N L:Nat)(dp m i:Int):((Es N L dp m i).map (fun q=>some q.2)=(Es N L dp m i).map (fun q=>some q.2))/\(ar.map (fun q=>q.2)=ar.map (fun q=>q.2))/\(sa N L dp m i=sa N L dp m i/\ak ar 270=ak ar 270):=⟨rfl,rfl,rfl,rfl⟩
theorem LG{B:aL}{k N L Na La Nb Lb Nd Ld Ne Le:Nat}{jL na jM nb dp m i a b c d:Int}{x y z w:Bool}{v:AV}(hk:x=true\/(x=false/\y=true)\/(x=false/\y=false/\z=true)\/(x=false/\y=false/\z=false/\w=true))(mc:Mt [oD 22,vI k] B)(hn:top<=N)(hi:0<=i)(hL:L<=500)(hm:0<=m/\m<=3000)(hb:(0<=a/\a<=1000)/\(0<=b/\b<=1000)/\(0<=c/\c<=3000)/\(0<=d/\d<=3000))(hd:0<=dp/\dp<=20)(Ra:cT FU N (0+i.toNat*10+2) 3=some [(u8<|jL),(i6 na),(.U Na 0 La)])(Rb:cT FU N (0+i.toNat*10+5) 3=some [(u8<|jM),(i6 nb),(.U Nb 0 Lb)])(Rc:cT FU N (0+i.toNat*10+8) 1=some [.U Nd 0 Ld])(Re:cT FU N (0+i.toNat*10+9) 1=some [.U Ne 0 Le])(h1:i<(L:Int))(ha:bg (aW<|pv 22) [(.agg [(u8<|jL),(i6 na),(.U Na 0 La)]),.int .i64 0]=some (.tuple [.int .i64 a,.bool x]))(Rf:bg (aW<|pv 22) [(.agg [(u8<|jM),(i6 nb),(.U Nb 0 Lb)]),.int .i64 0]=some (.tuple [.int .i64 b,.bool y]))(Rg:bg (aW<|nf k) [.U Nd 0 Ld,.int .i64<|dp+1]=some (.tuple [.int .i64 c,.bool z]))(Rh:bg (aW<|nf k) [.U Ne 0 Le,.int .i64<|dp+1]=some (.tuple [.int .i64 d,.bool w]))(hv:(.tuple [.int .i64 0,.bool true])=v):au pg B 270 (Fin pg (az Tryz.f17) fun y _=>y=v) (sa N L dp m i)<|ak ar 270:=by
 have TT:=(ax (i<(L:Int)) (fun _=>(dc i (L:Int)<|ai hn<|ai Ra<|ai ha<|dc i (L:Int)<|ai hn<|ai Rb<|ai Rf<|dc i (L:Int)<|ai hn<|ai Rc<|ai (wI<|dp+1)<|ai Rg<|dc i (L:Int)<|ai hn<|ai Re<|ai (wI<|dp+1)<|ai Rh<|ai (wI<|m+1)<|ai (wI<|(m+1)+a)<|ai (wI<|((m+1)+a)+b)<|ai (wI<|(((m+1)+a)+b)+c)<|ai (wI<|((((m+1)+a)+b)+c)+d) (show(.tuple [i0,(.bool true)])=v from hv))) fun _=>(oF ae));let P:Pl:=(.st 2<|.rg<|.go 3<|.fk (.en<|.st 5<|.rg<|.go 2<|.fh<|.go 1<|.fj [(u8<|jL),(i6 na),(.U Na 0 La)]<|.kn (.tuple [(i6 a),(.bool x)])<|.go 5<|.en<|.st 1<|.rg<|.go 2<|.fh<|.go 1<|.fj [(u8<|jM),(i6 nb),(.U Nb 0 Lb)]<|.kn (.tuple [(i6 b),(.bool y)])<|.go 5<|.en<|.st 1<|.rg<|.go 2<|.fh<|.go 1<|.fj [(.U Nd 0 Ld)]<|.go 1<|.vl (i6<|dp+1)<|.kn (.tuple [(i6 c),(.bool z)])<|.go 5<|.en<|.st 1<|.rg<|.go 2<|.fh<|.go 1<|.fj [(.U Ne 0 Le)]<|.go 1<|.vl (i6<|dp+1)<|.kn (.tuple [(i6 d),(.bool w)])<|.go 5<|.en<|.st 1<|.rg<|.go 1<|.vl (i6<|m+1)<|.go 1<|.vl (i6<|(m+1)+a)<|.go 1<|.vl (i6<|((m+1)+a)+b)<|.go 1<|.vl (i6<|(((m+1)+a)+b)+c)<|.go 1<|.vl (i6<|((((m+1)+a)+b)+c)+d)<|.go 1<|.en<|.rt 6 .no)<|.no);rcases hk with rfl|⟨rfl,rfl⟩|⟨rfl,rfl,rfl⟩|⟨rfl,rfl,rfl,rfl⟩
 all_goals exact mh (E:=en [oD 22,vI k]) fm rfl bY mc.2.2.1 mc.2.2.2 900 P TT aX
theorem muN{B:aL}{k N L Na La Nb Lb Nd Ld Ne Le:Nat}{jL na jM nb dp m i a b c d:Int}{x y z w:Bool}{v:AV}(mc:Mt [oD 22,vI k] B)(hn:top<=N)(hi:0<=i)(hL:L<=500)(hm:0<=m/\m<=3000)(hb:(0<=a/\a<=1000)/\(0<=b/\b<=1000)/\(0<=c/\c<=3000)/\(0<=d/\d<=3000))(hd:0<=dp/\dp<=20)(Ra:cT FU N (0+i.toNat*10+2) 3=some [(u8<|jL),(i6 na),(.U Na 0 La)])(Rb:cT FU N (0+i.toNat*10+5) 3=some [(u8<|jM),(i6 nb),(.U Nb 0 Lb)])(Rc:cT FU N (0+i.toNat*10+8) 1=some [.U Nd 0 Ld])(Re:cT FU N (0+i.toNat*10+9) 1=some [.U Ne 0 Le])(h1:i<(L:Int))(ha:bg (aW<|pv 22) [(.agg [(u8<|jL),(i6 na),(.U Na 0 La)]),.int .i64 0]=some (.tuple [.int .i64 a,.bool false]))(Rf:bg (aW<|pv 22) [(.agg [(u8<|jM),(i6 nb),(.U Nb 0 Lb)]),.int .i64 0]=some (.tuple [.int .i64 b,.bool false]))(Rg:bg (aW<|nf k) [.U Nd 0 Ld,.int .i64<|dp+1]=some (.tuple [.int .i64 c,.bool false]))(Rh:bg (aW<|nf k) [.U Ne 0 Le,.int .i64<|dp+1]=some (.tuple [.int .i64 d,.bool false]))(hv:(((((m+1)+a)+b)+c)+d)>3000->(.tuple [.int .i64 0,.bool true])=v)(H:¬((((((m+1)+a)+b)+c)+d)>(3000:Int))->au pg B 270 (Fin pg (az Tryz.f17) fun y _=>y=v) (sa N L dp (((((m+1)+a)+b)+c)+d)<|i+1) (ak ar 270)):au pg B 270 (Fin pg (az Tryz.f17) fun y _=>y=v) (sa N L dp m i)<|ak ar 270:=by exact wC mc (C:=(fun fr s1 _=>fr=sa N L dp (((((m+1)+a)+b)+c)+d) (i+1)/\s1=ak ar 270/\¬((((((m+1)+a)+b)+c)+d)>(3000:Int)))) (fun fr s1 p hC=>by obtain⟨rfl,rfl,hq⟩:=hC;exact H hq) (.st 2<|.rg<|.go 3<|.fk (.en<|.st 5<|.rg<|.go 2<|.fh<|.go 1<|.fj [(u8<|jL),(i6 na),(.U Na 0 La)]<|.kn (.tuple [(i6 a),(.bool false)])<|.go 5<|.en<|.st 1<|.rg<|.go 2<|.fh<|.go 1<|.fj [(u8<|jM),(i6 nb),(.U Nb 0 Lb)]<|.kn (.tuple [(i6 b),(.bool false)])<|.go 5<|.en<|.st 1<|.rg<|.go 2<|.fh<|.go 1<|.fj [(.U Nd 0 Ld)]<|.go 1<|.vl (i6<|dp+1)<|.kn (.tuple [(i6 c),(.bool false)])<|.go 5<|.en<|.st 1<|.rg<|.go 2<|.fh<|.go 1<|.fj [(.U Ne 0 Le)]<|.go 1<|.vl (i6<|dp+1)<|.kn (.tuple [(i6 d),(.bool false)])<|.go 5<|.en<|.st 1<|.rg<|.go 1<|.vl (i6<|m+1)<|.go 1<|.vl (i6<|(m+1)+a)<|.go 1<|.vl (i6<|((m+1)+a)+b)<|.go 1<|.vl (i6<|(((m+1)+a)+b)+c)<|.go 1<|.vl (i6<|((((m+1)+a)+b)+c)+d)<|.go 1<|.en<|.st 1<|.rg<|.go 12<|.fk (.go 1<|.en<|.rt 4 .no)<|.go 1<|.en<|.st 3<|.rg<|.go 1<|.vl (i6<|i+1)<|.go 1<|.en<|.st 1<|.ls (Es N L dp (((((m+1)+a)+b)+c)+d)<|i+1) ar 270 .no)<|.no)<|ax (i<(L:Int)) (fun _=>(dc i (L:Int)<|ai hn<|ai Ra<|ai ha<|dc i (L:Int)<|ai hn<|ai Rb<|ai Rf<|dc i (L:Int)<|ai hn<|ai Rc<|ai (wI<|dp+1)<|ai Rg<|dc i (L:Int)<|ai hn<|ai Re<|ai (wI<|dp+1)<|ai Rh<|ai (wI<|m+1)<|ai (wI<|(m+1)+a)<|ai (wI<|((m+1)+a)+b)<|ai (wI<|(((m+1)+a)+b)+c)<|ai (wI<|((((m+1)+a)+b)+c)+d)<|ax ((((((m+1)+a)+b)+c)+d)>3000) (fun _=>(show(.tuple [i0,(.bool true)])=v from hv ae)) fun _=>(ai (wI<|i+1)<|ai (mS<|Es N L dp (((((m+1)+a)+b)+c)+d)<|i+1)<|ai (mO ar) (show(sa N L dp (((((m+1)+a)+b)+c)+d)<|i+1)=(sa N L dp (((((m+1)+a)+b)+c)+d)<|i+1)/\(ak ar 270)=(ak ar 270)/\¬((((((m+1)+a)+b)+c)+d)>(3000:Int)) from⟨rfl,rfl,by omega⟩)))) bF
theorem muE{m:Int}(mc:Mt [oD 22,vI k] B)(h1:(L:Int)<=i)(hv:(.tuple [.int .i64 m,.bool false])=v):au pg B 270 (Fin pg (az Tryz.f17) fun y _=>y=v) (sa N L dp m i)<|ak ar 270:=by exact wS mc (.st 2<|.rg<|.go 3<|.fk (.no)<|.en<|.rt 5 .no) W4
theorem muG(mc:Mt [oD 22,vI k] B)(hd:dp<=20)(hL:L<=500)(H:au pg B 270 (Fin pg (az Tryz.f17) fun y _=>y=v) (sa N L dp 0 0)<|ak ar 270):au pg B 270 (Fin pg (az Tryz.f17) fun y _=>y=v) (sF 17 Tryz.f17 [(.U N 0 L),(i6 dp)])<|ak ar 270:=by exact wC mc (C:=(fun fr s1 _=>fr=sa N L dp 0 0/\s1=ak ar 270)) nr (.st 4<|.rg<|.go 1<|.fk (.no)<|.go 3<|.fk (.no)<|.go 1<|.en<|.st 9<|.ls (Es N L dp 0 0) ar 270 .no)<|ax (dp>20) bF fun _=>(ax ((L:Int)>500) bF fun _=>(ajD N L dp 0 0))
theorem muB(mc:Mt [oD 22,vI k] B)(hd:dp>20\/(L:Int)>500)(hv:(.tuple [.int .i64 0,.bool true])=v):au pg B 270 (Fin pg (az Tryz.f17) fun y _=>y=v) (sF 17 Tryz.f17 [(.U N 0 L),(i6 dp)])<|ak ar 270:=by exact wS mc (.st 4<|.rg<|.go 1<|.fk (.go 5<|.en<|.rt 4 .no)<|.go 3<|.fk (.go 1<|.en<|.rt 4 .no)<|.no)<|ax (dp>20) (fun _=>(show(.tuple [i0,(.bool true)])=v from hv)) fun _=>(ax ((L:Int)>500) (fun _=>(show(.tuple [i0,(.bool true)])=v from hv)) bF)
end
end yb
end
section
open Go Go.Rn Go.RowKit Go.Proofs
namespace zD
open cv cG cR cW eH fy zN gZ dt uA nQ nE ue qx yb
variable {k i:Nat} {L:bV}
theorem Vh{f:Ex->Int×Bool}(hf:∀e,0<=(f e).1/\(f e).1<=1000):∀(l:List Ex) (m:Int),0<=m/\m<=1000->0<=(rY f l m).1/\(rY f l m).1<=1000
 |[],m,h=>h
 |a::r,m,h=>by
  unfold rY;have:=hf a;split
  ·show(0:Int)<=0/\(0:Int)<=1000;omega
  ·split
   ·show(0:Int)<=0/\(0:Int)<=1000;omega
   ·exact Vh hf r _ ae
theorem uO:∀(k:Nat) (e:Ex),0<=(dK k e).1/\(dK k e).1<=1000
 |0,_=>by show(0:Int)<=0/\(0:Int)<=1000;omega
 |k+1,.mk _ _ args=>by
  unfold dK;split
  ·show(0:Int)<=0/\(0:Int)<=1000;omega
  ·exact Vh (uO k) args 1 ae
theorem Vi{α:Type}{l r:List α}{a:α}(hr:l.drop i=a::r):i<l.length/\l[i]? =some a/\a∈l/\l.drop (i+1)=r:=by
 have ha:l[i]? =some a:=by have:=congrArg (fun q=>q[0]?) hr;simp only[List.getElem?_drop,List.getElem?_cons_zero,Nat.add_zero] at this;exact this
 refine⟨(List.getElem?_eq_some_iff.1 ha).1,ha,List.mem_of_getElem? ha,?_⟩;have:=congrArg (List.drop 1) hr;rw[List.drop_drop] at this;exact this
theorem aaG(hP:bE pg)(h':aU [oD k])(h:aU L):aU<|oD (k+1)::L:=by
 refine ij hP h h' Tryz.func34 fun args v e=>?_;obtain⟨⟨op,n,l⟩,rfl,hk,rfl⟩:=gH e;refine⟨aM.1 aX,fun B mc=>?_⟩;rw[←gY,aD];have ed:(22:Int) - ((k+1:Nat):Int)=21 - (k:Int):=by omega
 rw[ed];unfold dK;by_cases c:k=0\/l.length>10
 ·rw[if_pos c];exact sdB mc ae rfl
 ·rw[if_neg c];have XN:k≠0:=fun q=>c<|.inl q;have hl:l.length<=10:=by
   by_cases q:l.length<=10
   ·exact q
   ·exact absurd (.inr ae) c
  have key:∀(r:List Ex) (i:Nat) (m:Int),l.drop i=r->0<=m/\m<=1000->
   au pg B 270 (Fin pg (az Tryz.f34) fun y _=>y= .tuple [.int .i64 (rY (dK k) r m).1,.bool (rY (dK k) r m).2]) (rZ (21 - (k:Int)) m i) (ak (nu op n (nm<|cN l) l.length) 271):=by
   intro r;induction r with
   |nil=>intro i m hr hm;have hi:l.length<=i:=List.drop_eq_nil_iff.1 hr;exact sdE mc ae rfl
   |cons a r ih=>
    intro i m hr hm;obtain⟨hi,ha,qD,lF⟩:=Vi hr;obtain⟨bT,n0,l0⟩:=a;have hx:=yS ha (z:=(i:Int)) ae;have iJ:=uO k<|.mk bT n0 l0;have bI:bg (aW<|pv k) [.agg<|aD<|.mk bT n0 l0,.int .i64<|21 - (k:Int)+1]=some (.tuple [.int .i64 (dK k<|.mk bT n0 l0).1,.bool (dK k<|.mk bT n0 l0).2]):=fH (fB pv.bW ⟨.mk bT n0 l0,by rw[show(21:Int) - (k:Int)+1=22 - (k:Int) by omega],by omega,rfl⟩) rP rfl;rw[aD] at hx bI;unfold rY;cases hb:(dK k<|.mk bT n0 l0).2 with
    |true=>rw[hb] at bI;rw[if_pos rfl];exact sdT mc (cr _) ae hl hm iJ ae hx ae bI rfl
    |false=>
     rw[hb] at bI;rw[if_neg (by intro q;cases q)];refine sdF mc (cr _) ae hl hm iJ ae hx ae bI (fun q=>?_) fun q=>?_
     ·rw[if_pos q]
     ·rw[if_neg q];exact ih (i+1) _ lF ae
  exact sdG mc ae hl<|key l 0 1 (by rw[List.drop_zero]) ae
theorem Tv(hP:bE pg):∀(k:Nat) {L:bV},aU L->aU (oD k::L)
 |0,L,h=>by refine ij hP h cJ Tryz.func34 fun args v e=>?_;obtain⟨_,_,hk,_⟩:=gH e;omega
 |k+1,L,h=>aaG hP (Tv hP k cJ) h
theorem Vj{f:List St->Int×Bool}(hf:∀l,0<=(f l).1/\(f l).1<=3000):∀(l:List St) (m:Int),0<=m/\m<=3000->0<=(kg f l m).1/\(kg f l m).1<=3000
 |[],m,h=>h
 |s::r,m,h=>by
  unfold kg;have h1:=uO 22<|iq s;have h2:=uO 22<|gu s;have h3:=hf<|cn s;have h4:=hf<|cj s;split
  ·show(0:Int)<=0/\(0:Int)<=3000;omega
  ·split
   ·show(0:Int)<=0/\(0:Int)<=3000;omega
   ·exact Vj hf r _ ae
theorem xe:∀(k:Nat) (l:List St),0<=(cX k l).1/\(cX k l).1<=3000
 |0,_=>by show(0:Int)<=0/\(0:Int)<=3000;omega
 |k+1,l=>by
  unfold cX;split
  ·show(0:Int)<=0/\(0:Int)<=3000;omega
  ·exact Vj (xe k) l 0 ae
theorem Jo{l:List St}{s:St}(h:l[i]? =some s){z:Int}(hz:z.toNat=i)(j k:Nat)(hk:j+k<=10):cT FU (nm<|bA l) (0+z.toNat*10+j) k=some (((aP s).drop j).take k):=by rw[uL,hz,Nat.zero_add,Bi mC h j k hk]
theorem abM(hP:bE pg)(h':aU [oD 22,vI k])(h:aU L):aU<|vI (k+1)::L:=by
 refine ij hP h h' Tryz.func17 fun args v e=>?_;obtain⟨l,rfl,hk,rfl⟩:=gH e;refine⟨aM.1 aX,fun B mc=>?_⟩;rw[←gY];have ed:(22:Int) - ((k+1:Nat):Int)=21 - (k:Int):=by omega
 rw[ed];unfold cX;by_cases c:k=0\/l.length>500
 ·rw[if_pos c];exact muB mc ae rfl
 ·rw[if_neg c];have XN:k≠0:=fun q=>c<|.inl q;have hl:l.length<=500:=by
   by_cases q:l.length<=500
   ·exact q
   ·exact absurd (.inr ae) c
  have key:∀(r:List St) (i:Nat) (m:Int),l.drop i=r->0<=m/\m<=3000->
   au pg B 270 (Fin pg (az Tryz.f17) fun y _=>y= .tuple [.int .i64 (kg (cX k) r m).1,.bool (kg (cX k) r m).2]) (sa (nm<|bA l) l.length (21 - (k:Int)) m i) (ak ar 270):=by
   intro r;induction r with
   |nil=>intro i m hr hm;have hi:l.length<=i:=List.drop_eq_nil_iff.1 hr;exact muE mc ae rfl
   |cons s r ih=>
    intro i m hr hm;obtain⟨hi,ha,qD,lF⟩:=Vi hr;have p1:=Jo ha (z:=(i:Int)) ae 2 3 ae;have p2:=Jo ha (z:=(i:Int)) ae 5 3 ae;have p3:=Jo ha (z:=(i:Int)) ae 8 1 ae;have p4:=Jo ha (z:=(i:Int)) ae 9 1 ae;obtain⟨kind,to,⟨jL,na,la⟩,⟨jM,nb,lb⟩,bd,el⟩:=s;have e1:((aP<|.mk kind to (.mk jL na la) (.mk jM nb lb) bd el).drop 2).take 3=aD (.mk jL na la):=by rw[aP,aD,aD];rfl
    have e2:((aP<|.mk kind to (.mk jL na la) (.mk jM nb lb) bd el).drop 5).take 3=aD (.mk jM nb lb):=by rw[aP,aD,aD];rfl
    have e3:((aP<|.mk kind to (.mk jL na la) (.mk jM nb lb) bd el).drop 8).take 1=[.U (nm<|bA bd) 0 bd.length]:=by rw[aP,aD,aD];rfl
    have e4:((aP<|.mk kind to (.mk jL na la) (.mk jM nb lb) bd el).drop 9).take 1=[.U (nm<|bA el) 0 el.length]:=by rw[aP,aD,aD];rfl
    rw[e1] at p1;rw[e2] at p2;rw[e3] at p3;rw[e4] at p4;have uu:=uO 22<|.mk jL na la;have ur:=uO 22<|.mk jM nb lb;have jJ:=xe k bd;have QH:=xe k el;have hS:∀e:Ex,bg (aW<|pv 22) [.agg<|aD e,.int .i64 0]=some (.tuple [.int .i64 (dK 22 e).1,.bool (dK 22 e).2]):=fun e=>fH (fB pv.bW ⟨e,rfl,by omega,rfl⟩) rP rfl;have hM:∀q:List St,bg (aW<|nf k) [.U (nm<|bA q) 0 q.length,.int .i64<|21 - (k:Int)+1]=some (.tuple [.int .i64 (cX k q).1,.bool (cX k q).2]):=fun q=>fH (fB nf.bW ⟨q,by rw[show(21:Int) - (k:Int)+1=22 - (k:Int) by omega],by omega,rfl⟩) (by rw[List.all_cons,tz];rfl) rfl;have s1:=hS<|.mk jL na la;have s2:=hS<|.mk jM nb lb;have m1:=hM bd;have m2:=hM el;rw[aD] at p1 p2 s1 s2;have hb:(0<=(dK 22<|.mk jL na la).1/\(dK 22<|.mk jL na la).1<=1000)/\(0<=(dK 22<|.mk jM nb lb).1/\(dK 22<|.mk jM nb lb).1<=1000)/\(0<=(cX k bd).1/\(cX k bd).1<=3000)/\(0<=(cX k el).1/\(cX k el).1<=3000):=⟨uu,ur,jJ,QH⟩;show au pg B 270 (Fin pg (az Tryz.f17) fun y _=>y= .tuple [.int .i64 (kg (cX k) (.mk kind to (.mk jL na la) (.mk jM nb lb) bd el::r) m).1,.bool (kg (cX k) (.mk kind to (.mk jL na la) (.mk jM nb lb) bd el::r) m).2]) _ _;unfold kg;show au pg B 270 (Fin pg (az Tryz.f17) fun y _=>y= .tuple [.int .i64 (if(dK 22<|.mk jL na la).2=true\/(dK 22<|.mk jM nb lb).2=true\/(cX k bd).2=true\/(cX k el).2=true then(0,true) else if m+1+(dK 22<|.mk jL na la).1+(dK 22<|.mk jM nb lb).1+(cX k bd).1+(cX k el).1>3000 then(0,true) else kg (cX k) r (m+1+(dK 22<|.mk jL na la).1+(dK 22<|.mk jM nb lb).1+(cX k bd).1+(cX k el).1)).1,.bool (if(dK 22<|.mk jL na la).2=true\/(dK 22<|.mk jM nb lb).2=true\/(cX k bd).2=true\/(cX k el).2=true then(0,true) else if m+1+(dK 22<|.mk jL na la).1+(dK 22<|.mk jM nb lb).1+(cX k bd).1+(cX k el).1>3000 then(0,true) else kg (cX k) r (m+1+(dK 22<|.mk jL na la).1+(dK 22<|.mk jM nb lb).1+(cX k bd).1+(cX k el).1)).2]) _ _;cases x:(dK 22<|.mk jL na la).2 with
    |true=>rw[x] at s1;rw[if_pos<|.inl rfl];exact LG (x:=true) (.inl rfl) mc (cr _) ae hl hm hb ae p1 p2 p3 p4 ae s1 s2 m1 m2 rfl
    |false=>
     rw[x] at s1;cases y:(dK 22<|.mk jM nb lb).2 with
     |true=>rw[y] at s2;rw[if_pos<|.inr<|.inl rfl];exact LG (x:=false) (y:=true) (.inr<|.inl ⟨rfl,rfl⟩) mc (cr _) ae hl hm hb ae p1 p2 p3 p4 ae s1 s2 m1 m2 rfl
     |false=>
      rw[y] at s2;cases z:(cX k bd).2 with
      |true=>rw[z] at m1;rw[if_pos<|.inr<|.inr<|.inl rfl];exact LG (x:=false) (y:=false) (z:=true) (.inr<|.inr<|.inl ⟨rfl,rfl,rfl⟩) mc (cr _) ae hl hm hb ae p1 p2 p3 p4 ae s1 s2 m1 m2 rfl
      |false=>
       rw[z] at m1;cases w:(cX k el).2 with
       |true=>rw[w] at m2;rw[if_pos<|.inr<|.inr<|.inr rfl];exact LG (x:=false) (y:=false) (z:=false) (w:=true) (.inr<|.inr<|.inr ⟨rfl,rfl,rfl,rfl⟩) mc (cr _) ae hl hm hb ae p1 p2 p3 p4 ae s1 s2 m1 m2 rfl
       |false=>
        rw[w] at m2;rw[if_neg<|by simp];refine muN (x:=false) (y:=false) (z:=false) (w:=false) mc (cr _) ae hl hm hb ae p1 p2 p3 p4 ae s1 s2 m1 m2 (fun q=>?_) fun q=>?_
        ·rw[if_pos q]
        ·rw[if_neg q];exact ih (i+1) _ lF ae
  exact muG mc ae hl<|key l 0 0 (by rw[List.drop_zero]) ae
theorem Uo(hP:bE pg):∀(k:Nat) {L:bV},aU L->aU (vI k::L)
 |0,L,h=>by refine ij hP h cJ Tryz.func17 fun args v e=>?_;obtain⟨_,_,hk,_⟩:=gH e;omega
 |k+1,L,h=>abM hP (Tv hP 22<|Uo hP k cJ) h
end zD
end
section
open Go Go.Rn Go.RowKit Go.Proofs
namespace Py
open cv fW eH BS gO nQ nE zO BB qJ tT fc cG dt ER vT xK uA ue qx G1 Km cR cW fw eV fL fN fS gg fT gh gP gQ g9 ia iF iW jH jI fy gZ ni pO pP rV rW BZ Gy xO yb zD
variable {k:Nat}
theorem SC{f:Ex->Int×Bool}:∀(l:List Ex) (m:Int),(rY f l m).2=false->(∀a∈l,(f a).2=false)/\(rY f l m).1=l.foldl (fun n a=>n+(f a).1) m/\(m<=1000->(rY f l m).1<=1000)
 |[],m,_=>⟨fun a h=>(by cases h),rfl,fun h=>h⟩
 |a::r,m,h=>by
  unfold rY at h ⊢;by_cases c1:(f a).2=true
  ·rw[if_pos c1] at h;cases h
  ·rw[if_neg c1] at h ⊢;by_cases c2:m+(f a).1>1000
   ·rw[if_pos c2] at h;cases h
   ·rw[if_neg c2] at h ⊢;obtain⟨h1,h2,h3⟩:=SC r _ h;refine⟨fun b hb=>?_,by rw[h2,List.foldl_cons],fun _=>h3 ae⟩;rcases List.mem_cons.1 hb with rfl|hb
    ·exact Bool.eq_false_iff.2 c1
    ·exact h1 b hb
theorem fold_congr{f g:Ex->Int}:∀(l:List Ex) (m:Int),(∀a∈l,f a=g a)->l.foldl (fun n a=>n+f a) m=l.foldl (fun n a=>n+g a) m
 |[],_,_=>rfl
 |a::l,m,h=>by rw[List.foldl_cons,List.foldl_cons,h a List.mem_cons_self];exact fold_congr l _ fun b hb=>h b<|List.mem_cons_of_mem _ hb
theorem H6:∀(k j:Nat) (e:Ex),k<=j->(dK k e).2=false->tO j e=true/\lq j e=(dK k e).1
 |0,_,_,_,h=>by cases h
 |k+1,0,_,hj,_=>by omega
 |k+1,j+1,.mk op n l,hj,h=>by
  unfold dK at h ⊢;by_cases c:k=0\/l.length>10
  ·rw[if_pos c] at h;cases h
  ·rw[if_neg c] at h ⊢;obtain⟨h1,h2,_⟩:=SC l 1 h;refine⟨List.all_eq_true.2 fun a ha=>(H6 k j a ae<|h1 a ha).1,?_⟩;rw[h2];exact fold_congr l 1 fun a ha=>(H6 k j a ae<|h1 a ha).2
theorem Ih{f:List St->Int×Bool}(hf:∀l,0<=(f l).1):∀(l:List St) (m:Int),(kg f l m).2=false->m<=(kg f l m).1/\∀s∈l,(dK 22<|iq s).2=false/\(dK 22<|gu s).2=false/\(f<|cn s).2=false/\(f<|cj s).2=false
 |[],m,_=>⟨Int.le_refl _,fun s h=>by cases h⟩
 |t::r,m,h=>by
  unfold kg at h ⊢;have a1:=uO 22<|iq t;have a2:=uO 22<|gu t;have a3:=hf<|cn t;have a4:=hf<|cj t;by_cases c1:(dK 22<|iq t).2=true\/(dK 22<|gu t).2=true\/(f<|cn t).2=true\/(f<|cj t).2=true
  ·rw[if_pos c1] at h;cases h
  ·rw[if_neg c1] at h ⊢;by_cases c2:m+1+(dK 22<|iq t).1+(dK 22<|gu t).1+(f<|cn t).1+(f<|cj t).1>3000
   ·rw[if_pos c2] at h;cases h
   ·rw[if_neg c2] at h ⊢;obtain⟨h1,h2⟩:=Ih hf r _ h;refine⟨by omega,fun s hs=>?_⟩;rcases List.mem_cons.1 hs with rfl|hs
    ·refine⟨Bool.eq_false_iff.2 fun q=>c1<|.inl q,Bool.eq_false_iff.2 fun q=>c1<|.inr<|.inl q,Bool.eq_false_iff.2 fun q=>c1<|.inr<|.inr<|.inl q,Bool.eq_false_iff.2 fun q=>c1<|.inr<|.inr<|.inr q⟩
    ·exact h2 s hs
theorem aaH{l:List St}:cX (k+1) l=if k=0\/l.length>500 then(0,true) else kg (cX k) l 0:=rfl
theorem Mp{l:List St}(h:(cX (k+1) l).2=false):l.length<=500/\(cX (k+1) l).1=(kg (cX k) l 0).1/\(kg (cX k) l 0).2=false/\∀s∈l,(dK 22<|iq s).2=false/\(dK 22<|gu s).2=false/\(cX k<|cn s).2=false/\(cX k<|cj s).2=false:=by
 rw[aaH] at h ⊢;by_cases c:k=0\/l.length>500
 ·rw[if_pos c] at h;cases h
 ·rw[if_neg c] at h ⊢;refine⟨?_,rfl,h,(Ih (fun l=>(xe k l).1) l 0 h).2⟩;by_cases q:l.length<=500
  ·exact q
  ·exact absurd (.inr ae) c
theorem CR:∀(k j:Nat) (l:List St),k<=j->(cX k l).2=false->kR j l=true/\rF j l=true
 |0,_,_,_,h=>by cases h
 |k+1,0,_,hj,_=>by omega
 |k+1,j+1,l,hj,h=>by
  obtain⟨h1,_,_,h4⟩:=Mp h;have hl:decide (l.length<=1000000)=true:=decide_eq_true ae;constructor
  ·show(decide (l.length<=1000000)&&l.all fun s=>kR j (cn s)&&kR j (cj s))=true;rw[hl];exact List.all_eq_true.2 fun s hs=>and_true.2 ⟨(CR k j _ ae (h4 s hs).2.2.1).1,(CR k j _ ae (h4 s hs).2.2.2).1⟩
  ·show(decide (l.length<=1000000)&&l.all fun s=>((cn s).isEmpty||rF j (cn s))&&((cj s).isEmpty||rF j (cj s)))=true;rw[hl];exact List.all_eq_true.2 fun s hs=>and_true.2 ⟨by rw[(CR k j _ ae (h4 s hs).2.2.1).2,Bool.or_true],by rw[(CR k j _ ae (h4 s hs).2.2.2).2,Bool.or_true]⟩
theorem Up{k j:Nat}(he:∀l n1 n2,(cX j l).2=false->0<=n1/\n1+(cX j l).1<=1000000000->0<=n2/\n2+(cX j l).1<=1000000000->∃m1 m2,fD (pa 60) k l (.int .i64 n1) (.int .i64 n2)=some ⟨true,.int .i64 m1,.int .i64 m2,none⟩/\(n1<=m1/\m1<=n1+(cX j l).1)/\n2<=m2/\m2<=n2+(cX j l).1):
 ∀(r:List St) (m n1 n2:Int),(kg (cX j) r m).2=false->0<=m->m<=3000->0<=n1->0<=n2->n1+((kg (cX j) r m).1 - m)<=1000000000->n2+((kg (cX j) r m).1 - m)<=1000000000->∃m1 m2,kG (fD (pa 60) k) (pa 60) r (.int .i64 n1) (.int .i64 n2)=some ⟨true,.int .i64 m1,.int .i64 m2,none⟩/\(n1<=m1/\m1<=n1+((kg (cX j) r m).1 - m))/\n2<=m2/\m2<=n2+((kg (cX j) r m).1 - m)
 |[],m,n1,n2,_,_,_,_,_,_,_=>⟨n1,n2,rfl,by show n1<=n1/\n1<=n1+(m - m);omega,by show n2<=n2/\n2<=n2+(m - m);omega⟩
 |t::r,m,n1,n2,h,hm,cS,h1,h2,h3,h4=>by
  unfold kg at h h3 h4 ⊢;have a1:=uO 22<|iq t;have a2:=uO 22<|gu t;have a3:=xe j<|cn t;have a4:=xe j<|cj t;by_cases c1:(dK 22<|iq t).2=true\/(dK 22<|gu t).2=true\/(cX j<|cn t).2=true\/(cX j<|cj t).2=true
  ·rw[if_pos c1] at h;cases h
  ·rw[if_neg c1] at h h3 h4 ⊢;by_cases c2:m+1+(dK 22<|iq t).1+(dK 22<|gu t).1+(cX j<|cn t).1+(cX j<|cj t).1>3000
   ·rw[if_pos c2] at h;cases h
   ·rw[if_neg c2] at h h3 h4 ⊢;have g:=(Ih (fun l=>(xe j l).1) r _ h).1;obtain⟨d1,e1⟩:=H6 22 60 (iq t) ae<|Bool.eq_false_iff.2 fun q=>c1<|.inl q;obtain⟨d2,e2⟩:=H6 22 60 (gu t) ae<|Bool.eq_false_iff.2 fun q=>c1<|.inr<|.inl q;have z1:0<=mj 60 (iq t)/\mj 60 (iq t)<=(dK 22<|iq t).1:=by have:=Fq 60 (iq t) d1;unfold mj;split<;>omega
    have z2:0<=mj 60 (gu t)/\mj 60 (gu t)<=(dK 22<|gu t).1:=by have:=Fq 60 (gu t) d2;unfold mj;split<;>omega
    have hc:Pr 60 t n1 n2:=⟨by omega,by omega,d1,d2,by rw[e1];omega,by rw[e2];omega⟩;have hr:pa 60 t (.int .i64 n1) (.int .i64 n2)=some ⟨true,.int .i64<|n1+1,.int .i64<|n2+(mj 60 (iq t)+mj 60 (gu t)),none⟩:=if_pos hc;obtain⟨p1,p2,q1,q2,q3⟩:=he (cn t) (n1+1) (n2+(mj 60 (iq t)+mj 60 (gu t))) (Bool.eq_false_iff.2 fun q=>c1<|.inr<|.inr<|.inl q) ae ae;obtain⟨u1,u2,w1,w2,w3⟩:=he (cj t) p1 p2 (Bool.eq_false_iff.2 fun q=>c1<|.inr<|.inr<|.inr q) ae ae;obtain⟨y1,y2,x1,x2,x3⟩:=Up he r _ u1 u2 h ae ae ae ae ae ae;refine⟨y1,y2,?_,by omega,by omega⟩;unfold kG;rw[hr];simp only[q1,w1];exact x1
theorem SD:∀(k j:Nat) (l:List St) (n1 n2:Int),j<=k->(cX j l).2=false->0<=n1/\n1+(cX j l).1<=1000000000->0<=n2/\n2+(cX j l).1<=1000000000->∃m1 m2,fD (pa 60) k l (.int .i64 n1) (.int .i64 n2)=some ⟨true,.int .i64 m1,.int .i64 m2,none⟩/\(n1<=m1/\m1<=n1+(cX j l).1)/\n2<=m2/\m2<=n2+(cX j l).1
 |_,0,_,_,_,_,h,_,_=>by cases h
 |0,j+1,_,_,_,hj,_,_,_=>by omega
 |k+1,j+1,l,n1,n2,hj,h,h1,h2=>by obtain⟨g1,g2,g3,_⟩:=Mp h;rw[g2] at h1 h2 ⊢;have g4:=(Ih (fun l=>(xe j l).1) l 0 g3).1;obtain⟨m1,m2,e,a,b⟩:=Up (k:=k) (fun l n1 n2 x y z=>SD k j l n1 n2 ae x y z) l 0 n1 n2 g3 ae ae h1.1 h2.1 ae ae;refine⟨m1,m2,?_,by omega,by omega⟩;unfold fD;rw[show decide (l.length<=1000000)=true from decide_eq_true ae];exact e
def rM:Nat->List St->Prop
 |0,_=>True
 |k+1,l=>∀s∈l,(0<=iQ s/\iQ s<256)/\rM k (cn s)/\rM k (cj s)
theorem NJ:∀{k:Nat} {l:List St},rM k l->Ha k l
 |0,_,_=>trivial
 |k+1,l,h=>fun s hs=>⟨(h s hs).1.1,NJ (h s hs).2.1,NJ (h s hs).2.2⟩
theorem Uq{k:Nat}{n:Int}(he:∀l,kR k l=true->rM k l->∃p,fD gw k l (.int .i64 n) (.bool false)=some p):∀r:List St,(∀s∈r,(kR k (cn s)=true/\kR k (cj s)=true)/\(0<=iQ s/\iQ s<256)/\rM k (cn s)/\rM k (cj s))->∃p,kG (fD gw k) gw r (.int .i64 n) (.bool false)=some p
 |[],_=>⟨_,rfl⟩
 |t::r,h=>by
  obtain⟨⟨d1,d2⟩,k1,k2,k3⟩:=h t List.mem_cons_self;unfold kG;have e1:gw t (.int .i64 n) (.bool false)=some (if mG t n=true then pY n else pN n):=by
   show(if 0<=iQ t/\iQ t<256 then(match mG t n with
    |true=>some (⟨true,.int .i64 n,.bool false,none⟩:fx)
    |false=>some ⟨false,.int .i64 n,.bool false,some .ret⟩) else none)=_
   rw[if_pos k1];cases mG t n<;>rfl
  rw[e1];cases hs:mG t n with
  |false=>exact⟨_,rfl⟩
  |true=>
   rw[if_pos rfl];show ∃p,(match fD gw k (cn t) (.int .i64 n) (.bool false) with
    |none=>none
    |some q=>match q.ret with
     |false=>some q
     |true=>match fD gw k (cj t) q.v1 q.v2 with
      |none=>none
      |some u=>match u.ret with
       |false=>some u
       |true=>kG (fD gw k) gw r u.v1 u.v2)=some p
   obtain⟨q1,w1⟩:=he _ d1 k2;rw[w1];rcases Ay k _ _ w1 with rfl|rfl
   ·show ∃p,(match fD gw k (cj t) (.int .i64 n) (.bool false) with
     |none=>none
     |some u=>match u.ret with
      |false=>some u
      |true=>kG (fD gw k) gw r u.v1 u.v2)=some p
    obtain⟨q2,w2⟩:=he _ d2 k3;rw[w2];rcases Ay k _ _ w2 with rfl|rfl
    ·exact Uq he r fun s hs=>h s<|List.mem_cons_of_mem _ hs
    ·exact⟨_,rfl⟩
   ·exact⟨_,rfl⟩
theorem SE{n:Int}:∀(k:Nat) (l:List St),kR k l=true->rM k l->∃p,fD gw k l (.int .i64 n) (.bool false)=some p
 |0,_,h,_=>by cases h
 |k+1,l,hd,hk=>by obtain⟨c1,c2⟩:=and_true.1 (show(decide (l.length<=1000000)&&l.all fun s=>kR k (cn s)&&kR k (cj s))=true from hd);unfold fD;rw[c1];exact Uq (SE k) l fun s hs=>⟨and_true.1<|List.all_eq_true.1 c2 s hs,hk s hs⟩
theorem aaI{s:St}{n:Int}(h:mG s n=true):pb 6 (iq s)=true/\pb 6 (gu s)=true:=by
 obtain⟨kind,to,a,b,bd,el⟩:=s;have h:Ag (p0 kind) to a b bd el n=true:=h;have fit:∀(q:Bool) (e:Ex),uf q e n=true->pb 6 e=true:=fun q e h=>by
  cases q with
  |true=>have h:(eN 6 e&&rA 6 e n)=true:=h;exact OF (and_true.1 h).1
  |false=>have h:decide (DV e)=true:=h;have h:=of_decide_eq_true h;obtain⟨op,m,l⟩:=e;have hl:l=[]:=List.length_eq_zero_iff.1 h.2.2;subst hl;show(eN 6 (.mk op m [])||true)=true;rw[Bool.or_true]
 unfold Ag at h;split at h
 ·obtain⟨_,h⟩:=and_true.1 h;obtain⟨_,h⟩:=and_true.1 h;obtain⟨_,h⟩:=and_true.1 h;obtain⟨h1,h⟩:=and_true.1 h;obtain⟨h2,_⟩:=and_true.1 h;exact⟨fit _ _ h1,fit _ _ h2⟩
 ·cases h
theorem Ot{n:Int}:∀(k j i:Nat) (l:List St),k<=j->(cX k l).2=false->zT i n l->k<=i->qy j l=true
 |0,_,_,_,_,h,_,_=>by cases h
 |k+1,0,_,_,hj,_,_,_=>by omega
 |k+1,j+1,0,_,_,_,h,_=>by cases h
 |k+1,j+1,i+1,l,hj,h,ha,hi=>by obtain⟨h1,_,_,h4⟩:=Mp h;show(decide (l.length<=10000)&&l.all fun s=>pb 6 (iq s)&&(pb 6 (gu s)&&(qy j (cn s)&&qy j (cj s))))=true;rw[decide_eq_true (show l.length<=10000 by omega)];refine List.all_eq_true.2 fun s hs=>?_;obtain⟨a1,a2,a3⟩:=ha s hs;obtain⟨w1,w2⟩:=aaI a1;rw[w1,w2,Ot k j i _ ae (h4 s hs).2.2.1 a2 ae,Ot k j i _ ae (h4 s hs).2.2.2 a3 ae];rfl
theorem adh{tx:List St}{n:Nat}(h:(cX 22 tx).2=false)(hk:rM 60 tx):∃b,zP tx (n:Int) b/\(b=true->qy 60 tx=true/\oi 6 tx):=by obtain⟨d1,d2⟩:=CR 22 60 tx ae h;have iJ:=xe 22 tx;obtain⟨m1,m2,e1,_,_⟩:=SD 60 22 tx 0 0 ae h ae ae;obtain⟨p,e2⟩:=SE (n:=(n:Int)) 60 tx d1 hk;have hm:zP tx (n:Int)<|decide (0<=(n:Int)/\(n:Int)<6/\fp 60 tx<=6/\rG 60 tx<=2000)&&(p.ret&&decide (m1<=40/\m2<=300)):=⟨m1,m2,p,e1,e2,rfl⟩;refine⟨_,hm,fun hb=>?_⟩;have hp:p.ret=true:=(and_true.1 (and_true.1 hb).2).1;refine⟨Ot 22 60 60 tx ae h (AM 60 tx p e2 hp) ae,?_⟩;rw[hb] at hm;exact ags hm d1<|NJ hk
end Py
end
section
open Go Go.Rn Go.RowKit Go.Proofs
namespace Et
open cv fW eH gO zy pL qJ tT fc cG dt cR cW fw eV fL fN fS gg fT gh gP gQ g9 ia iF iW jH jI fy gZ kZ lE jT lW ni pO pP rV rW wv Eo D2 xO Ep EZ yb zD
variable {N tl T xl gl al X G A ka t2 nt f T2:Nat} {B:aL} {ns w tq seen nv i x s bf kd xq kq xn ve r ow kb an:Int} {uh um us u1 nk oj:AV} {t:Tr AV} {K:List Item}
noncomputable section
def tE(args:List AV)(v:AV):Prop:=args=[]/\v= .bool true
theorem tE.bW(args:List AV)(v v':AV)(h:tE args v)(h':tE args v'):v=v':=by rw[h.2,h'.2]
def V4:FuncId×KE:=(5,.val<|aW tE)
abbrev LL:bV:=[vI 22,V4,WK,WJ,U1,Ua,Wl,Wm,VJ,VI,Wx,Un,Vc,Tt,Vd,Ve,VX,Tu,VW,WI,Xt,Wz,Xg]
def wK(i:Int)(N len T tl:Nat):List<|Nat×AV:=[(4,(.U N 0 len)),(11,(.ptr<|some (270,0))),(13,(.ptr<|some (273,0))),(15,(.U T 0 tl)),(16,(i6 i))]
def yu(i:Int)(N len T tl:Nat):AF:=⟨3,aQ<|wK i N len T tl,(max Tryz.f3.ntmps 5),[.code<|a9 pg 3 [1,1,1,1,1,1,0,1,0,0],.inLoop<|a9 pg 3 [1,1,1,1,1,1,0,1,0,0],.inBlock 0,.code<|a9 pg 3 [1,1,1,1,1,1,1]],[],none⟩
def Hx(i:Int)(N len T tl:Nat):AF:=⟨3,aQ<|wK i N len T tl,(max Tryz.f3.ntmps 5),[.code<|a9 pg 3 [1,1,1,1,1,1,0,1,0,0,1,0,0,1,1],.inBlock 1,.code<|a9 pg 3 [1,1,1,1,1,1,0,1,0,0,1,1],.inLoop<|a9 pg 3 [1,1,1,1,1,1,0,1,0,0],.inBlock 0,.code<|a9 pg 3 [1,1,1,1,1,1,1]],[],none⟩
def An(uh um us:AV)(w seen tq nv ns:Int):List<|Nat×Option ab:=[(270,(some<|.tok 2 uh)),(271,(some<|.tok 4 um)),(272,(some<|.tok 1 us)),(273,some<|.cells 8 (Tr.fill [i0,(i6 tq),(i6 nv),(i6 ns),(u8<|w),(.ptr<|some (271,0)),(.ptr<|some (272,0)),(i6 seen)] 0 .nil) [])]
def YE(uh um us:AV)(w seen tq nv ns:Int):List<|Nat×Option ab:=[(270,(some<|.tok 2 uh)),(271,(some<|.tok 4 um)),(273,some<|.cells 8 (Tr.fill [i0,(i6 tq),(i6 nv),(i6 ns),(u8<|w),(.ptr<|some (271,0)),(.ptr<|some (277,0)),(i6 seen)] 0 .nil) []),(277,(some<|.tok 1 us))]
abbrev wL(B:aL)(fr:AF)(s:AS):Prop:=au pg B 270 (Fin pg (az Tryz.f3) fun y _=>y= .bool true) fr s
abbrev CC(uh um us:AV)(w seen tq nv ns:Int):AS:=ak (ar++An uh um us w seen tq nv ns) 274
abbrev p8(B:aL)(uh um us:AV)(w seen tq nv ns i:Int)(N len T tl:Nat):Prop:=wL B (yu i N len T tl)<|CC uh um us w seen tq nv ns
abbrev sI(B:aL)(uh um us:AV)(w seen tq nv ns i:Int)(N len T tl:Nat):Prop:=wL B (Hx i N len T tl)<|CC uh um us w seen tq nv ns
abbrev tG(n:Nat):AS->AS:=Xw 270 dX eK n
abbrev tQ(k n:Nat)(u:AV):AS->Prop:=Xv 270 dX eK k n u
theorem tR{T:Prop}(L:bV)(g k n:Nat)(val:AV->List AV->Option AV)(rest:List AV)(v y:AV)(hv:val v rest=some y)(t:T)(h1:sp L g=some (lX k val 270 eK dX):=by as_aux_lemma=>kernel_rfl)(h2:(rest.all AV.hi&&Nat.ble 270 n)=true:=by as_aux_lemma=>kernel_rfl)(h3:Nat.blt n top=true:=by as_aux_lemma=>kernel_rfl)(h4:y.hi=true:=by as_aux_lemma=>kernel_rfl):
 (∀s,tQ k n v s->bh pg (sp L) FU 6 (.fn g) (.ptr (some (n,0))::rest) s= .ok y (tG n s))/\(true=true/\true=true/\some (ab.tok k v)=some (.tok k v))/\T:=
 ⟨aeV (P:=pg) (F:=FU) (m:=5) h1 h2 h3 hv h4,⟨rfl,rfl,rfl⟩,t⟩
theorem qV(mc:Mt LL B){s:AS}{FR:AF}{S1:AS}(H:wL B FR S1)(p:Pl){T:Prop}(x:T)(h:T=wp (en LL) 900 6 (.fr f nt K t s) p (az Tryz.f3) (fun v s _=>v= .bool true) (fun fr s1 _=>fr=FR/\s1=S1):=by as_aux_lemma=>kernel_rfl)(h0:Nat.ble 270 s.nx=true:=by as_aux_lemma=>kernel_rfl):wL B ⟨f,t,nt,K,[],none⟩ s:=wC mc (C:=fun fr s1 _=>fr=FR/\s1=S1) nr p x h h0
theorem HM(mc:Mt LL B){s:AS}(p:Pl){T:Prop}(x:T)(h:T=wp (en LL) 900 6 (.fr f nt K t s) p (az Tryz.f3) (fun v s _=>v= .bool true) (fun _ _ _=>False):=by as_aux_lemma=>kernel_rfl)(h0:Nat.ble 270 s.nx=true:=by as_aux_lemma=>kernel_rfl):wL B ⟨f,t,nt,K,[],none⟩ s:=mh (E:=en LL) fm rfl bY mc.2.2.1 mc.2.2.2 900 p x h h0
abbrev qW(uh um us:AV)(w seen tq nv ns i:Int)(N len T tl bz:Nat):Pl:=.rn (wK i N len T tl) (ar++An uh um us w seen tq nv ns) (wK i N len T tl) (ar++An uh um us w seen tq nv ns) bz 274 .no
abbrev pnZ(uh um us:AV)(w seen tq nv ns i:Int)(N len T tl bz:Nat):Pl:=.rn (wK i N len T tl) (ar++YE uh um us w seen tq nv ns) (wK i N len T tl) (ar++An uh um us w seen tq nv ns) bz 274 .no
abbrev YF(o0:List<|Nat×Option ab)(uh um us:AV)(w seen tq nv ns i:Int)(N len T tl bz:Nat)(f:Int->Nat->Nat->Nat->Nat->AF):Prop:=((wK i N len T tl).map (fun q=>some q.2)=(wK i N len T tl).map (fun q=>some q.2))/\((ar++o0).map (fun q=>q.2)=(ar++o0).map (fun q=>q.2))/\iV FU 270 bz (wK i N len T tl) (ar++o0) (wK i N len T tl) (ar++An uh um us w seen tq nv ns) 274/\(f i N len T tl=f i N len T tl/\CC uh um us w seen tq nv ns=CC uh um us w seen tq nv ns)
theorem yr(f:Int->Nat->Nat->Nat->Nat->AF)(uh um us:AV)(w seen tq nv ns i:Int){len:Nat}(bz:Nat)(hN:(AV.U N 0 len).bG=true)(hT:(AV.U T 0 tl).bG=true)(h:sw [(270,270),(271,271),(272,272),(273,273)] 270 bz 274 [270,271,272,273]=true:=by as_aux_lemma=>kernel_rfl):YF (An uh um us w seen tq nv ns) uh um us w seen tq nv ns i N len T tl bz f:=
 ⟨rfl,rfl,BC (ps:=[(270,270),(271,271),(272,272),(273,273)]) (lo:=270) (bz:=bz) ae h cH (fun r hr ht=>⟨⟨by unfold top;omega,(.U N 0 len),List.mem_cons_self,((Bp ht GV)).z⟩,⟨⟨by unfold top;omega,(.ptr<|some (270,0)),(List.mem_cons_of_mem _ List.mem_cons_self),((bw.ptr (show r 270=270 from by rw[hr];kernel_rfl))).z⟩,⟨⟨by unfold top;omega,(.ptr<|some (273,0)),(List.mem_cons_of_mem _<|List.mem_cons_of_mem _ List.mem_cons_self),((bw.ptr (show r 273=273 from by rw[hr];kernel_rfl))).z⟩,⟨⟨by unfold top;omega,(.U T 0 tl),(List.mem_cons_of_mem _<|List.mem_cons_of_mem _<|List.mem_cons_of_mem _ List.mem_cons_self),((Bp ht GV)).z⟩,⟨⟨by unfold top;omega,(i6 i),(List.mem_cons_of_mem _<|List.mem_cons_of_mem _<|List.mem_cons_of_mem _<|List.mem_cons_of_mem _ List.mem_cons_self),((bw.int _ _)).z⟩,trivial⟩⟩⟩⟩⟩) fun r hr ht=>⟨(fun y hy=>by
  cases hy;refine⟨rfl,(.tok 2 uh),?_,(gJ.refl _),yV⟩;rw[(show r 270=270 from by rw[hr];kernel_rfl)];exact List.mem_cons_self),⟨(fun y hy=>by
  cases hy;refine⟨rfl,(.tok 4 um),?_,(gJ.refl _),yV⟩;rw[(show r 271=271 from by rw[hr];kernel_rfl)];exact(List.mem_cons_of_mem _ List.mem_cons_self)),⟨(fun y hy=>by
  cases hy;refine⟨rfl,(.tok 1 us),?_,(gJ.refl _),yV⟩;rw[(show r 272=272 from by rw[hr];kernel_rfl)];exact(List.mem_cons_of_mem _<|List.mem_cons_of_mem _ List.mem_cons_self)),⟨(fun y hy=>by
  cases hy;refine⟨rfl,(.cells 8 (Tr.fill [i0,(i6 tq),(i6 nv),(i6 ns),(u8<|w),(.ptr<|some (271,0)),(.ptr<|some (272,0)),(i6 seen)] 0 .nil) []),?_,rp,(Iu (l:=[i0,(i6 tq),(i6 nv),(i6 ns),(u8<|w),(.ptr<|some (271,0)),(.ptr<|some (272,0)),(i6 seen)]) (m:=[i0,(i6 tq),(i6 nv),(i6 ns),(u8<|w),(.ptr<|some (271,0)),(.ptr<|some (272,0)),(i6 seen)]) (rest:=[]) (by simp only[List.length_append,List.length_cons,List.length_nil];unfold top;omega) ⟨((bw.int _ _)).z,⟨((bw.int _ _)).z,⟨((bw.int _ _)).z,⟨((bw.int _ _)).z,⟨((bw.int _ _)).z,⟨((bw.ptr (show r 271=271 from by rw[hr];kernel_rfl))).z,⟨((bw.ptr (show r 272=272 from by rw[hr];kernel_rfl))).z,⟨((bw.int _ _)).z,trivial⟩⟩⟩⟩⟩⟩⟩⟩ rfl)⟩;rw[(show r 273=273 from by rw[hr];kernel_rfl)];exact(List.mem_cons_of_mem _<|List.mem_cons_of_mem _<|List.mem_cons_of_mem _ List.mem_cons_self)),trivial⟩⟩⟩⟩,rfl,rfl⟩
theorem ctZ(f:Int->Nat->Nat->Nat->Nat->AF)(uh um us:AV)(w seen tq nv ns i:Int){len:Nat}(bz:Nat)(hN:(AV.U N 0 len).bG=true)(hT:(AV.U T 0 tl).bG=true)(h:sw [(270,270),(271,271),(272,277),(273,273)] 270 bz 274 [270,271,272,273]=true:=by as_aux_lemma=>kernel_rfl):YF (YE uh um us w seen tq nv ns) uh um us w seen tq nv ns i N len T tl bz f:=
 ⟨rfl,rfl,BC (ps:=[(270,270),(271,271),(272,277),(273,273)]) (lo:=270) (bz:=bz) ae h cH (fun r hr ht=>⟨⟨by unfold top;omega,(.U N 0 len),List.mem_cons_self,((Bp ht GV)).z⟩,⟨⟨by unfold top;omega,(.ptr<|some (270,0)),(List.mem_cons_of_mem _ List.mem_cons_self),((bw.ptr (show r 270=270 from by rw[hr];kernel_rfl))).z⟩,⟨⟨by unfold top;omega,(.ptr<|some (273,0)),(List.mem_cons_of_mem _<|List.mem_cons_of_mem _ List.mem_cons_self),((bw.ptr (show r 273=273 from by rw[hr];kernel_rfl))).z⟩,⟨⟨by unfold top;omega,(.U T 0 tl),(List.mem_cons_of_mem _<|List.mem_cons_of_mem _<|List.mem_cons_of_mem _ List.mem_cons_self),((Bp ht GV)).z⟩,⟨⟨by unfold top;omega,(i6 i),(List.mem_cons_of_mem _<|List.mem_cons_of_mem _<|List.mem_cons_of_mem _<|List.mem_cons_of_mem _ List.mem_cons_self),((bw.int _ _)).z⟩,trivial⟩⟩⟩⟩⟩) fun r hr ht=>⟨(fun y hy=>by
  cases hy;refine⟨rfl,(.tok 2 uh),?_,(gJ.refl _),yV⟩;rw[(show r 270=270 from by rw[hr];kernel_rfl)];exact List.mem_cons_self),⟨(fun y hy=>by
  cases hy;refine⟨rfl,(.tok 4 um),?_,(gJ.refl _),yV⟩;rw[(show r 271=271 from by rw[hr];kernel_rfl)];exact(List.mem_cons_of_mem _ List.mem_cons_self)),⟨(fun y hy=>by
  cases hy;refine⟨rfl,(.tok 1 us),?_,(gJ.refl _),yV⟩;rw[(show r 272=277 from by rw[hr];kernel_rfl)];exact(List.mem_cons_of_mem _<|List.mem_cons_of_mem _<|List.mem_cons_of_mem _ List.mem_cons_self)),⟨(fun y hy=>by
  cases hy;refine⟨rfl,(.cells 8 (Tr.fill [i0,(i6 tq),(i6 nv),(i6 ns),(u8<|w),(.ptr<|some (271,0)),(.ptr<|some (277,0)),(i6 seen)] 0 .nil) []),?_,rp,(Iu (l:=[i0,(i6 tq),(i6 nv),(i6 ns),(u8<|w),(.ptr<|some (271,0)),(.ptr<|some (277,0)),(i6 seen)]) (m:=[i0,(i6 tq),(i6 nv),(i6 ns),(u8<|w),(.ptr<|some (271,0)),(.ptr<|some (272,0)),(i6 seen)]) (rest:=[]) (by simp only[List.length_append,List.length_cons,List.length_nil];unfold top;omega) ⟨((bw.int _ _)).z,⟨((bw.int _ _)).z,⟨((bw.int _ _)).z,⟨((bw.int _ _)).z,⟨((bw.int _ _)).z,⟨((bw.ptr (show r 271=271 from by rw[hr];kernel_rfl))).z,⟨((bw.ptr (show r 272=277 from by rw[hr];kernel_rfl))).z,⟨((bw.int _ _)).z,trivial⟩⟩⟩⟩⟩⟩⟩⟩ rfl)⟩;rw[(show r 273=273 from by rw[hr];kernel_rfl)];exact(List.mem_cons_of_mem _<|List.mem_cons_of_mem _ List.mem_cons_self)),trivial⟩⟩⟩⟩,rfl,rfl⟩
theorem tnO{len:Nat}{ah:Int}(mc:Mt LL B)(hn:top<=N)(hN:(AV.U N 0 len).bG=true)(hT:(AV.U T 0 tl).bG=true)(h0:0<=i)(hl:len<=2000)(h1:i<(len:Int))(hx:cT FU N (0+i.toNat*4+0) 4=some [(u8<|kd),(i6 ah),(i6 bf),(i6 x)])(hk:kd≠1/\kd≠2/\kd≠5)(H:sI B uh um us w seen tq nv ns i N len T tl):p8 B uh um us w seen tq nv ns i N len T tl:=by exact qV mc H (.st 2<|.rg<|.go 3<|.fk (.en<|.st 5<|.rg<|.go 2<|.fh<|.fj [(u8<|kd),(i6 ah),(i6 bf),(i6 x)]<|.go 2<|.en<|.st 2<|.rg<|.go 2<|.fk (.no)<|.go 3<|.fk (.no)<|.go 4<|.fk (.no)<|.go 1<|.en<|.st 2<|(qW uh um us w seen tq nv ns i N len T tl 275))<|.no)<|ax (i<(len:Int)) (fun _=>(dc i (len:Int)<|ai hn<|ai hx<|ax (kd=1) bF fun _=>(ax (kd=2) bF fun _=>(ax (kd=5) bF fun _=>(yr Hx uh um us w seen tq nv ns i 275 hN hT))))) bF
noncomputable abbrev Gz(bf:Int):AV:=i6<|(IntKind.wrap .i64<|1+(IntKind.wrap .i64<|Int.tmod (IntKind.wrap .u64 bf) 4))
theorem tn1{len:Nat}{ah:Int}(mc:Mt LL B)(hn:top<=N)(hN:(AV.U N 0 len).bG=true)(hT:(AV.U T 0 tl).bG=true)(h0:0<=i)(hl:len<=2000)(h1:i<(len:Int))(hx:cT FU N (0+i.toNat*4+0) 4=some [(u8<|kd),(i6 ah),(i6 bf),(i6 x)])(hk:kd=1)(k0:eR (dG aE zM) uh [(i6 ah),(Gz bf)]=some ((i6 r),u1))(H:sI B u1 um us w seen tq nv ns i N len T tl):p8 B uh um us w seen tq nv ns i N len T tl:=by exact qV mc H (.st 2<|.rg<|.go 3<|.fk (.en<|.st 5<|.rg<|.go 2<|.fh<|.fj [(u8<|kd),(i6 ah),(i6 bf),(i6 x)]<|.go 2<|.en<|.st 2<|.rg<|.go 2<|.fk (.go 10<|.en<|.st 2<|.rg<|.go 2<|.go 1<|.go 1<|.go 1<|.go 1<|.go 2<|.en<|.st 3<|.rg<|.go 2<|.fk (.no)<|.en<|.st 2<|.rg<|.go 2<|.fk (.en<|.st 1<|.rg<|.go 5<|.kt (i6 r) u1<|.en<|(qW u1 um us w seen tq nv ns i N len T tl 276))<|.no)<|.no)<|.no)<|ax (i<(len:Int)) (fun _=>(dc i (len:Int)<|ai hn<|ai hx<|ax (kd=1) (fun _=>(ax (kd=5) bF fun _=>(ax (kd=1) (fun _=>(ai k0 PY)) bF))) bF)) bF
theorem tn2{len:Nat}{ah:Int}(mc:Mt LL B)(hn:top<=N)(hN:(AV.U N 0 len).bG=true)(hT:(AV.U T 0 tl).bG=true)(h0:0<=i)(hl:len<=2000)(h1:i<(len:Int))(hx:cT FU N (0+i.toNat*4+0) 4=some [(u8<|kd),(i6 ah),(i6 bf),(i6 x)])(hk:kd=2)(k0:eR (dG aE KR) uh [(i6 ah),(Gz bf)]=some ((i6 r),u1))(H:sI B u1 um us w seen tq nv ns i N len T tl):p8 B uh um us w seen tq nv ns i N len T tl:=by exact qV mc H (.st 2<|.rg<|.go 3<|.fk (.en<|.st 5<|.rg<|.go 2<|.fh<|.fj [(u8<|kd),(i6 ah),(i6 bf),(i6 x)]<|.go 2<|.en<|.st 2<|.rg<|.go 2<|.fk (.no)<|.go 3<|.fk (.go 6<|.en<|.st 2<|.rg<|.go 2<|.go 1<|.go 1<|.go 1<|.go 1<|.go 2<|.en<|.st 3<|.rg<|.go 2<|.fk (.no)<|.en<|.st 2<|.rg<|.go 2<|.fk (.no)<|.en<|.st 1<|.rg<|.go 5<|.kt (i6 r) u1<|.en<|(qW u1 um us w seen tq nv ns i N len T tl 276))<|.no)<|.no)<|ax (i<(len:Int)) (fun _=>(dc i (len:Int)<|ai hn<|ai hx<|ax (kd=1) bF fun _=>(ax (kd=2) (fun _=>(ax (kd=5) bF fun _=>(ax (kd=1) bF fun _=>(ai k0 PY)))) bF))) bF
theorem ajE{len:Nat}{ah:Int}(mc:Mt LL B)(hn:top<=N)(hN:(AV.U N 0 len).bG=true)(hT:(AV.U T 0 tl).bG=true)(h0:0<=i)(hl:len<=2000)(h1:i<(len:Int))(hx:cT FU N (0+i.toNat*4+0) 4=some [(u8<|kd),(i6 ah),(i6 bf),(i6 x)])(hk:kd=5)(hr:r≠0)(k0:bJ aE ny uh [(i6 ah)]=some (i6 s))(k1:eR (dG aE zM) uh [(i6 s),(Gz bf)]=some ((i6 r),u1))(H:sI B u1 um us w seen tq nv ns i N len T tl):p8 B uh um us w seen tq nv ns i N len T tl:=by exact qV mc H (.st 2<|.rg<|.go 3<|.fk (.en<|.st 5<|.rg<|.go 2<|.fh<|.fj [(u8<|kd),(i6 ah),(i6 bf),(i6 x)]<|.go 2<|.en<|.st 2<|.rg<|.go 2<|.fk (.no)<|.go 3<|.fk (.no)<|.go 4<|.fk (.go 1<|.en<|.st 2<|.rg<|.go 2<|.go 1<|.go 1<|.go 1<|.go 1<|.go 2<|.en<|.st 3<|.rg<|.go 2<|.fk (.en<|.st 2<|.rg<|.go 3<|.cg (i6 s) (tG 270) (tQ 2 270 uh)<|.go 1<|.en<|.st 1<|.rg<|.go 4<|.kt (i6 r) u1<|.fk (.no)<|.en<|.st 2<|(qW u1 um us w seen tq nv ns i N len T tl 276))<|.no)<|.no)<|.no)<|ax (i<(len:Int)) (fun _=>(dc i (len:Int)<|ai hn<|ai hx<|ax (kd=1) bF fun _=>(ax (kd=2) bF fun _=>(ax (kd=5) (fun _=>(ax (kd=5) (fun _=>(tR LL 9 2 270 (bJ aE ny) [(i6 ah)] uh (i6 s) k0<|ai k1<|ax (r=0) bF fun _=>PY)) bF)) bF)))) bF
theorem ajF{len:Nat}{ah:Int}{v:Int}{u2 u3 u4:AV}(mc:Mt LL B)(hn:top<=N)(hN:(AV.U N 0 len).bG=true)(hT:(AV.U T 0 tl).bG=true)(h0:0<=i)(hl:len<=2000)(h1:i<(len:Int))(hx:cT FU N (0+i.toNat*4+0) 4=some [(u8<|kd),(i6 ah),(i6 bf),(i6 x)])(hk:kd=5)(k0:bJ aE ny uh [(i6 ah)]=some (i6 s))(k1:eR (dG aE zM) uh [(i6 s),(Gz bf)]=some (i0,u1))(k2:eR (dG aE Kl) u1 []=some ((.tuple [(i6 v),i0]),u2))(k3:eR (dG aE KV) u2 [(i6 ah),(i6 x)]=some (i0,u3))(k4:eR (dG aE Kk) u3 [(i6 s),(Gz bf),(i6 v)]=some (i0,u4))(H:sI B u4 um us w seen tq nv ns i N len T tl):p8 B uh um us w seen tq nv ns i N len T tl:=by exact qV mc H (.st 2<|.rg<|.go 3<|.fk (.en<|.st 5<|.rg<|.go 2<|.fh<|.fj [(u8<|kd),(i6 ah),(i6 bf),(i6 x)]<|.go 2<|.en<|.st 2<|.rg<|.go 2<|.fk (.no)<|.go 3<|.fk (.no)<|.go 4<|.fk (.go 1<|.en<|.st 2<|.rg<|.go 2<|.go 1<|.go 1<|.go 1<|.go 1<|.go 2<|.en<|.st 3<|.rg<|.go 2<|.fk (.en<|.st 2<|.rg<|.go 3<|.cg (i6 s) (tG 270) (tQ 2 270 uh)<|.go 1<|.en<|.st 1<|.rg<|.go 4<|.kt i0 u1<|.go 1<|.en<|.st 2<|.rg<|.go 1<|.kt (.tuple [(i6 v),i0]) u2<|.go 5<|.en<|.st 1<|.rg<|.go 8<|.kt i0 u3<|.go 8<|.kt i0 u4<|.go 2<|.en<|.st 2<|(qW u4 um us w seen tq nv ns i N len T tl 276))<|.no)<|.no)<|.no)<|ax (i<(len:Int)) (fun _=>(dc i (len:Int)<|ai hn<|ai hx<|ax (kd=1) bF fun _=>(ax (kd=2) bF fun _=>(ax (kd=5) (fun _=>(ax (kd=5) (fun _=>(tR LL 9 2 270 (bJ aE ny) [(i6 ah)] uh (i6 s) k0<|ai k1<|ai k2<|ai k3<|ai k4<|yr Hx u4 um us w seen tq nv ns i 276 hN hT)) bF)) bF)))) bF
theorem stX{len:Nat}(mc:Mt LL B)(hn:top<=N)(hN:(AV.U N 0 len).bG=true)(hT:(AV.U T 0 tl).bG=true)(h0:0<=i)(hl:i<=2000)(hw:4<w)(H:p8 B uh um us w seen tq nv ns (i+1) N len T tl):sI B uh um us w seen tq nv ns i N len T tl:=by exact qV mc H (.st 1<|.rg<|.go 1<|.il<|.rt 10<|.fk (.no)<|.go 1<|.en<|.st 1<|.rg<|.go 2<|.il<|.st 8<|.rg<|.go 4<|.fk (.go 1<|.en<|.rt 4<|.go 8<|.en<|.st 10<|.rg<|.go 1<|.vl (i6<|i+1)<|.go 1<|.en<|.st 1<|(qW uh um us w seen tq nv ns (i+1) N len T tl 276))<|.no)<|ax (w=1) bF fun _=>(ax (w>4) (fun _=>(ai (wI<|i+1)<|yr yu uh um us w seen tq nv ns (i+1) 276 hN hT)) bF)
noncomputable abbrev xQ(ka:Nat)(an xn:Int):AV:=.agg [(u8<|.ofNat ka),(i6 an),(i6 xn)]
theorem gu(hk:(ka=1/\kb=2)\/(ka=2/\kb=3)\/(ka=3/\kb=5)\/(ka=4/\kb=6)){w:Int}{len:Nat}{c:Int}(mc:Mt LL B)(hn:top<=N)(hN:(AV.U N 0 len).bG=true)(hT:(AV.U T 0 tl).bG=true)(h0:0<=i)(hl:i<=2000)(Ri:(AV.U T2 0 t2).bG=true)(k0:bJ aE oV uh []=some (i6 nv))(k1:bJ aE ov uh []=some (i6 ns))(k2:bJ aE DC uh []=some (i6 c))(k3:lB Dd [(i6 c),(i6 ns)]=some (some nk,fun p=>.tuple [p,.int .i64 0]))(k4:bJ dk (fun a rest=>(kf a rest).map (·.1)) um []=some (xQ ka an xn))(k5:eR (dG aE yT) uh []=some ((.U T2 0 t2),uh))(H:p8 B uh um nk kb seen tq nv ns (i+1) N len T2 t2):sI B uh um us 1 seen tq nv ns i N len T tl:=by
 have TT:=(tR LL 24 2 270 (bJ aE oV) [] uh (i6 nv) k0<|ax (nv≠nv) (fun _=>(oF ae)) fun _=>(tR LL 29 2 270 (bJ aE ov) [] uh (i6 ns) k1<|ax (ns≠ns) (fun _=>(oF ae)) fun _=>(tR LL 42 2 270 (bJ aE DC) [] uh (i6 c) k2<|ai k3<|tR LL 35 4 271 (bJ dk fun a rest=>(kf a rest).map (·.1)) [] um (xQ ka an xn) k4<|tR LL 42 2 270 (bJ aE DC) [] uh (i6 c) k2<|ai k5<|ai (wI<|i+1)<|ctZ yu uh um nk kb seen tq nv ns (i+1) 281 hN Ri)));let P:Pl:=(.st 1<|.rg<|.go 1<|.il<|.rt 10<|.go 2<|.en<|.st 1<|.rg<|.go 2<|.il<|.st 11<|.rg<|.go 1<|.cg (i6 nv) (tG 270) (tQ 2 270 uh)<|.go 4<|.fk (.no)<|.go 2<|.cg (i6 ns) (tG 270) (tQ 2 270 uh)<|.go 4<|.fk (.no)<|.go 2<|.en<|.st 6<|.rg<|.go 8<|.il<|.st 4<|.rg<|.go 1<|.cg (i6 c) (tG 270) (tQ 2 270 uh)<|.go 4<|.nt (some nk) (fun p=>.tuple [p,.int .i64 0])<|.go 5<|.en<|.st 5<|.rg<|.go 1<|.il<|.rg<|.go 6<|.cg (xQ ka an xn) (tG 271) (tQ 4 271 um)<|.go 5<|.en<|.rt 1<|.en<|.st 1<|.rg<|.go 6<|.cg (i6 c) (tG 270) (tQ 2 270 uh)<|.go 1<|.il<|.rt 7<|.go 4<|.en<|.rt 1<|.go 5<|.en<|.rt 3<|.go 8<|.en<|.st 4<|.rg<|.go 1<|.kt (.U T2 0 t2) uh<|.go 1<|.en<|.st 5<|.rg<|.go 1<|.vl (i6<|i+1)<|.go 1<|.en<|.st 1<|(pnZ uh um nk kb seen tq nv ns (i+1) N len T2 t2 281));rcases hk with⟨rfl,rfl⟩|⟨rfl,rfl⟩|⟨rfl,rfl⟩|⟨rfl,rfl⟩
 all_goals exact qV mc H P TT aX
theorem iB(hk:(ka=1/\kb=2)\/(ka=2/\kb=3)\/(ka=3/\kb=5)\/(ka=4/\kb=6)){w:Int}{len:Nat}(mc:Mt LL B)(hn:top<=N)(hN:(AV.U N 0 len).bG=true)(hT:(AV.U T 0 tl).bG=true)(h0:0<=i)(hl:i<=2000)(k0:bJ aE oV uh []=some (i6 nv))(k1:bJ aE ov uh []=some (i6 ns))(k2:eR (dG dk D1) um []=some (i0,oj))(k3:bJ dk (fun a rest=>(kf a rest).map (·.1)) oj []=some (xQ ka an xn))(H:p8 B uh oj us kb seen tq nv ns (i+1) N len T tl):sI B uh um us 2 seen tq nv ns i N len T tl:=by
 have TT:=(tR LL 24 2 270 (bJ aE oV) [] uh (i6 nv) k0<|ax (nv≠nv) (fun _=>(oF ae)) fun _=>(tR LL 29 2 270 (bJ aE ov) [] uh (i6 ns) k1<|ax (ns≠ns) (fun _=>(oF ae)) fun _=>(ai k2<|tR LL 35 4 271 (bJ dk fun a rest=>(kf a rest).map (·.1)) [] oj (xQ ka an xn) k3<|ai (wI<|i+1)<|yr yu uh oj us kb seen tq nv ns (i+1) 278 hN hT)));let P:Pl:=(.st 1<|.rg<|.go 1<|.il<|.rt 10<|.go 2<|.en<|.st 1<|.rg<|.go 2<|.il<|.st 11<|.rg<|.go 1<|.cg (i6 nv) (tG 270) (tQ 2 270 uh)<|.go 4<|.fk (.no)<|.go 2<|.cg (i6 ns) (tG 270) (tQ 2 270 uh)<|.go 4<|.fk (.no)<|.go 2<|.en<|.st 6<|.rg<|.go 8<|.il<|.st 3<|.rg<|.go 4<|.kt i0 oj<|.en<|.st 1<|.rg<|.go 1<|.il<|.rg<|.go 6<|.cg (xQ ka an xn) (tG 271) (tQ 4 271 oj)<|.go 5<|.en<|.rt 1<|.en<|.rt 3<|.go 5<|.en<|.rt 3<|.go 8<|.en<|.st 10<|.rg<|.go 1<|.vl (i6<|i+1)<|.go 1<|.en<|.st 1<|(qW uh oj us kb seen tq nv ns (i+1) N len T tl 278));rcases hk with⟨rfl,rfl⟩|⟨rfl,rfl⟩|⟨rfl,rfl⟩|⟨rfl,rfl⟩
 all_goals exact qV mc H P TT aX
theorem stK{w:Int}{len:Nat}{ah:Int}(mc:Mt LL B)(hn:top<=N)(hN:(AV.U N 0 len).bG=true)(hT:(AV.U T 0 tl).bG=true)(h0:0<=i)(hl:i<=2000)(k0:bJ aE oV uh []=some (i6 nv))(k1:bJ aE ov uh []=some (i6 ns))(k2:bJ dk (fun a rest=>(kf a rest).map (·.1)) um []=some (.agg [(u8<|kq),(i6 ah),(i6 xq)]))(k3:bJ aE ny uh [(i6 ah)]=some (i6 s))(k4:bJ aE tD uh [(i6 s)]=some (i6 ow))(k5:bJ aE ri uh [(i6 s)]=some (i6 ve))(k6:eR (dG jG BD) us [(i6 ow),(i6 ve)]=some ((u8<|.ofNat 0),us))(H:p8 B uh um us 4 ve tq nv ns (i+1) N len T tl):sI B uh um us 3 seen tq nv ns i N len T tl:=by exact qV mc H (.st 1<|.rg<|.go 1<|.il<|.rt 10<|.go 2<|.en<|.st 1<|.rg<|.go 2<|.il<|.st 11<|.rg<|.go 1<|.cg (i6 nv) (tG 270) (tQ 2 270 uh)<|.go 4<|.fk (.no)<|.go 2<|.cg (i6 ns) (tG 270) (tQ 2 270 uh)<|.go 4<|.fk (.no)<|.go 2<|.en<|.st 6<|.rg<|.go 8<|.il<|.st 3<|.rg<|.go 5<|.cg (.agg [(u8<|kq),(i6 ah),(i6 xq)]) (tG 271) (tQ 4 271 um)<|.go 1<|.cg (i6 s) (tG 270) (tQ 2 270 uh)<|.go 1<|.en<|.st 2<|.rg<|.go 6<|.cg (i6 ow) (tG 270) (tQ 2 270 uh)<|.go 2<|.cg (i6 ve) (tG 270) (tQ 2 270 uh)<|.kt (u8<|.ofNat 0) us<|.go 1<|.en<|.st 5<|.rg<|.go 4<|.cg (i6 ve) (tG 270) (tQ 2 270 uh)<|.go 6<|.en<|.st 1<|.rg<|.go 7<|.il<|.rt 7<|.go 4<|.en<|.rt 1<|.go 5<|.en<|.rt 3<|.go 8<|.en<|.st 10<|.rg<|.go 1<|.vl (i6<|i+1)<|.go 1<|.en<|.st 1<|(qW uh um us 4 ve tq nv ns (i+1) N len T tl 280))<|tR LL 24 2 270 (bJ aE oV) [] uh (i6 nv) k0<|ax (nv≠nv) bF fun _=>(tR LL 29 2 270 (bJ aE ov) [] uh (i6 ns) k1<|ax (ns≠ns) bF fun _=>(tR LL 35 4 271 (bJ dk fun a rest=>(kf a rest).map (·.1)) [] um (.agg [(u8<|kq),(i6 ah),(i6 xq)]) k2<|tR LL 9 2 270 (bJ aE ny) [(i6 ah)] uh (i6 s) k3<|tR LL 47 2 270 (bJ aE tD) [(i6 s)] uh (i6 ow) k4<|tR LL 48 2 270 (bJ aE ri) [(i6 s)] uh (i6 ve) k5<|ai k6<|tR LL 48 2 270 (bJ aE ri) [(i6 s)] uh (i6 ve) k5<|ai (wI<|i+1)<|yr yu uh um us 4 ve tq nv ns (i+1) 280 hN hT))
theorem Xx{w:Int}{len:Nat}{ah Cf:Int}(mc:Mt LL B)(hn:top<=N)(hN:(AV.U N 0 len).bG=true)(hT:(AV.U T 0 tl).bG=true)(h0:0<=i)(hl:i<=2000)(hw:Cf≠0)(k0:bJ aE oV uh []=some (i6 nv))(k1:bJ aE ov uh []=some (i6 ns))(k2:bJ dk (fun a rest=>(kf a rest).map (·.1)) um []=some (.agg [(u8<|kq),(i6 ah),(i6 xq)]))(k3:bJ aE ny uh [(i6 ah)]=some (i6 s))(k4:bJ aE tD uh [(i6 s)]=some (i6 ow))(k5:bJ aE ri uh [(i6 s)]=some (i6 ve))(k6:eR (dG jG BD) us [(i6 ow),(i6 ve)]=some ((u8<|Cf),us))(H:p8 B uh um us 7 seen tq nv ns (i+1) N len T tl):sI B uh um us 3 seen tq nv ns i N len T tl:=by exact qV mc H (.st 1<|.rg<|.go 1<|.il<|.rt 10<|.go 2<|.en<|.st 1<|.rg<|.go 2<|.il<|.st 11<|.rg<|.go 1<|.cg (i6 nv) (tG 270) (tQ 2 270 uh)<|.go 4<|.fk (.no)<|.go 2<|.cg (i6 ns) (tG 270) (tQ 2 270 uh)<|.go 4<|.fk (.no)<|.go 2<|.en<|.st 6<|.rg<|.go 8<|.il<|.st 3<|.rg<|.go 5<|.cg (.agg [(u8<|kq),(i6 ah),(i6 xq)]) (tG 271) (tQ 4 271 um)<|.go 1<|.cg (i6 s) (tG 270) (tQ 2 270 uh)<|.go 1<|.en<|.st 2<|.rg<|.go 6<|.cg (i6 ow) (tG 270) (tQ 2 270 uh)<|.go 2<|.cg (i6 ve) (tG 270) (tQ 2 270 uh)<|.kt (u8<|Cf) us<|.go 1<|.en<|.st 1<|.rg<|.go 1<|.fk (.en<|.st 2<|.rg<|.go 3<|.il<|.st 5<|.rg<|.go 4<|.il<|.rt 7<|.go 4<|.en<|.rt 1<|.go 4<|.en<|.rt 1<|.go 5<|.en<|.rt 3<|.go 8<|.en<|.st 10<|.rg<|.go 1<|.vl (i6<|i+1)<|.go 1<|.en<|.st 1<|(qW uh um us 7 seen tq nv ns (i+1) N len T tl 281))<|.no)<|tR LL 24 2 270 (bJ aE oV) [] uh (i6 nv) k0<|ax (nv≠nv) bF fun _=>(tR LL 29 2 270 (bJ aE ov) [] uh (i6 ns) k1<|ax (ns≠ns) bF fun _=>(tR LL 35 4 271 (bJ dk fun a rest=>(kf a rest).map (·.1)) [] um (.agg [(u8<|kq),(i6 ah),(i6 xq)]) k2<|tR LL 9 2 270 (bJ aE ny) [(i6 ah)] uh (i6 s) k3<|tR LL 47 2 270 (bJ aE tD) [(i6 s)] uh (i6 ow) k4<|tR LL 48 2 270 (bJ aE ri) [(i6 s)] uh (i6 ve) k5<|ai k6<|ax (Cf≠0) PV bF))
theorem ajG{w:Int}{len:Nat}{ah:Int}(mc:Mt LL B)(hn:top<=N)(hN:(AV.U N 0 len).bG=true)(hT:(AV.U T 0 tl).bG=true)(h0:0<=i)(hl:i<=2000)(hm:ow≠ -1\/ve≠seen)(k0:bJ aE oV uh []=some (i6 nv))(k1:bJ aE ov uh []=some (i6 ns))(k2:bJ dk (fun a rest=>(kf a rest).map (·.1)) um []=some (.agg [(u8<|kq),(i6 ah),(i6 xq)]))(k3:bJ aE ny uh [(i6 ah)]=some (i6 s))(k4:bJ aE tD uh [(i6 s)]=some (i6 ow))(k5:bJ aE ri uh [(i6 s)]=some (i6 ve))(H:p8 B uh um us 7 seen tq nv ns (i+1) N len T tl):sI B uh um us 4 seen tq nv ns i N len T tl:=by exact qV mc H (.st 1<|.rg<|.go 1<|.il<|.rt 10<|.go 2<|.en<|.st 1<|.rg<|.go 2<|.il<|.st 11<|.rg<|.go 1<|.cg (i6 nv) (tG 270) (tQ 2 270 uh)<|.go 4<|.fk (.no)<|.go 2<|.cg (i6 ns) (tG 270) (tQ 2 270 uh)<|.go 4<|.fk (.no)<|.go 2<|.en<|.st 6<|.rg<|.go 8<|.il<|.st 3<|.rg<|.go 4<|.cg (.agg [(u8<|kq),(i6 ah),(i6 xq)]) (tG 271) (tQ 4 271 um)<|.go 2<|.en<|.st 1<|.rg<|.go 2<|.cg (i6 s) (tG 270) (tQ 2 270 uh)<|.go 1<|.en<|.st 2<|.rg<|.go 2<|.cg (i6 ow) (tG 270) (tQ 2 270 uh)<|.fk (.go 10<|.en<|.st 2<|.rg<|.go 2<|.il<|.st 5<|.rg<|.go 4<|.il<|.rt 7<|.go 4<|.en<|.rt 1<|.go 4<|.en<|.rt 1<|.go 5<|.en<|.rt 3<|.go 8<|.en<|.st 10<|.rg<|.go 1<|.vl (i6<|i+1)<|.go 1<|.en<|.st 1<|(qW uh um us 7 seen tq nv ns (i+1) N len T tl 281))<|.go 3<|.cg (i6 ve) (tG 270) (tQ 2 270 uh)<|.go 4<|.fk (.go 1<|.en<|.st 2<|.rg<|.go 2<|.il<|.st 5<|.rg<|.go 4<|.il<|.rt 7<|.go 4<|.en<|.rt 1<|.go 4<|.en<|.rt 1<|.go 5<|.en<|.rt 3<|.go 8<|.en<|.st 10<|.rg<|.go 1<|.vl (i6<|i+1)<|.go 1<|.en<|.st 1<|(qW uh um us 7 seen tq nv ns (i+1) N len T tl 281))<|.no)<|tR LL 24 2 270 (bJ aE oV) [] uh (i6 nv) k0<|ax (nv≠nv) bF fun _=>(tR LL 29 2 270 (bJ aE ov) [] uh (i6 ns) k1<|ax (ns≠ns) bF fun _=>(tR LL 35 4 271 (bJ dk fun a rest=>(kf a rest).map (·.1)) [] um (.agg [(u8<|kq),(i6 ah),(i6 xq)]) k2<|tR LL 9 2 270 (bJ aE ny) [(i6 ah)] uh (i6 s) k3<|tR LL 47 2 270 (bJ aE tD) [(i6 s)] uh (i6 ow) k4<|ax (ow≠(-1)) PV fun _=>(tR LL 48 2 270 (bJ aE ri) [(i6 s)] uh (i6 ve) k5<|ax (ve≠seen) PV bF)))
theorem LH(hk:(ka=1/\kb=2)\/(ka=2/\kb=3)\/(ka=3/\kb=5)\/(ka=4/\kb=6)){w:Int}{len:Nat}{ah ra:Int}(mc:Mt LL B)(hn:top<=N)(hN:(AV.U N 0 len).bG=true)(hT:(AV.U T 0 tl).bG=true)(h0:0<=i)(hl:i<=2000)(hnT:top<=T)(ha:0<=ah/\ah<(tl:Int))(E5:cT FU T (0+ah.toNat*1+0) 1=some [.int .i64 x])(k0:bJ aE oV uh []=some (i6 nv))(k1:bJ aE ov uh []=some (i6 ns))(k2:bJ dk (fun a rest=>(kf a rest).map (·.1)) um []=some (.agg [(u8<|kq),(i6 ah),(i6 xq)]))(k3:bJ aE ny uh [(i6 ah)]=some (i6 s))(k4:bJ aE tD uh [(i6 s)]=some (i6<|.negSucc 0))(k5:bJ aE ri uh [(i6 s)]=some (i6 seen))(k6:bJ aE Gg uh [(i6 ah)]=some (i6 x))(k7:eR (dG dk BY) um [(i6 x)]=some (i0,oj))(k8:eR (dG jG G5) us [(i6 s)]=some ((i6 ra),nk))(k9:bJ dk (fun a rest=>(kf a rest).map (·.1)) oj []=some (xQ ka an xn))(H:p8 B uh oj nk kb seen tq nv ns (i+1) N len T tl):sI B uh um us 4 seen tq nv ns i N len T tl:=by
 have TT:=(tR LL 24 2 270 (bJ aE oV) [] uh (i6 nv) k0<|ax (nv≠nv) (fun _=>(oF ae)) fun _=>(tR LL 29 2 270 (bJ aE ov) [] uh (i6 ns) k1<|ax (ns≠ns) (fun _=>(oF ae)) fun _=>(tR LL 35 4 271 (bJ dk fun a rest=>(kf a rest).map (·.1)) [] um (.agg [(u8<|kq),(i6 ah),(i6 xq)]) k2<|tR LL 9 2 270 (bJ aE ny) [(i6 ah)] uh (i6 s) k3<|tR LL 47 2 270 (bJ aE tD) [(i6 s)] uh (i6<|.negSucc 0) k4<|tR LL 48 2 270 (bJ aE ri) [(i6 s)] uh (i6 seen) k5<|ax (seen≠seen) (fun _=>(oF ae)) fun _=>(tR LL 50 2 270 (bJ aE Gg) [(i6 ah)] uh (i6 x) k6<|ai k7<|ai k8<|tR LL 35 4 271 (bJ dk fun a rest=>(kf a rest).map (·.1)) [] oj (xQ ka an xn) k9<|ax (ah<0) (fun _=>(oF ae)) fun _=>(ax (ah>=(tl:Int)) (fun _=>(oF ae)) fun _=>(dc ah (tl:Int)<|ai hnT<|ai E5<|ax (x≠x) (fun _=>(oF ae)) fun _=>(ai (wI<|i+1)<|yr yu uh oj nk kb seen tq nv ns (i+1) 280 hN hT)))))));let P:Pl:=(.st 1<|.rg<|.go 1<|.il<|.rt 10<|.go 2<|.en<|.st 1<|.rg<|.go 2<|.il<|.st 11<|.rg<|.go 1<|.cg (i6 nv) (tG 270) (tQ 2 270 uh)<|.go 4<|.fk (.no)<|.go 2<|.cg (i6 ns) (tG 270) (tQ 2 270 uh)<|.go 4<|.fk (.no)<|.go 2<|.en<|.st 6<|.rg<|.go 8<|.il<|.st 3<|.rg<|.go 4<|.cg (.agg [(u8<|kq),(i6 ah),(i6 xq)]) (tG 271) (tQ 4 271 um)<|.go 2<|.en<|.st 1<|.rg<|.go 2<|.cg (i6 s) (tG 270) (tQ 2 270 uh)<|.go 1<|.en<|.st 2<|.rg<|.go 2<|.cg (i6<|.negSucc 0) (tG 270) (tQ 2 270 uh)<|.go 4<|.cg (i6 seen) (tG 270) (tQ 2 270 uh)<|.go 4<|.fk (.no)<|.go 1<|.en<|.st 3<|.rg<|.go 2<|.cg (i6 x) (tG 270) (tQ 2 270 uh)<|.go 1<|.en<|.st 1<|.rg<|.go 5<|.kt i0 oj<|.en<|.st 1<|.rg<|.go 5<|.kt (i6 ra) nk<|.en<|.st 1<|.rg<|.go 1<|.il<|.rg<|.go 6<|.cg (xQ ka an xn) (tG 271) (tQ 4 271 oj)<|.go 5<|.en<|.rt 1<|.en<|.st 1<|.rg<|.go 4<|.il<|.rt 7<|.go 4<|.en<|.rt 1<|.go 5<|.en<|.rt 3<|.go 8<|.en<|.st 6<|.rg<|.go 9<|.fk (.no)<|.go 5<|.fk (.no)<|.go 7<|.fh<|.fj [(i6 x)]<|.fk (.no)<|.go 2<|.en<|.st 3<|.rg<|.go 1<|.vl (i6<|i+1)<|.go 1<|.en<|.st 1<|(qW uh oj nk kb seen tq nv ns (i+1) N len T tl 280));rcases hk with⟨rfl,rfl⟩|⟨rfl,rfl⟩|⟨rfl,rfl⟩|⟨rfl,rfl⟩
 all_goals exact qV mc H P TT aX
theorem s0L{len:Nat}{m:Int}(mc:Mt LL B)(hn:top<=N)(hN:(AV.U N 0 len).bG=true)(k0:bg (aW<|nf 22) [(.U X 0 xl),i0]=some (.tuple [(i6 m),(.bool true)]))(k1:bg (aW tE) []=some (.bool true)):wL B (sF 3 Tryz.f3 [(.U X 0 xl),(.U A 0 al),(i6 ns),(.U G 0 gl),(.U N 0 len)])<|ak ar 270:=by exact HM mc (.st 4<|.rg<|.go 2<|.il<|.st 3<|.rg<|.go 1<|.kn (.tuple [(i6 m),(.bool true)])<|.go 5<|.en<|.rt 3<|.go 14<|.en<|.st 2<|.rg<|.kn (.bool true)<|.go 1<|.en<|.rt 1 .no)<|ai k0 KL
theorem s0B{len:Nat}{m:Int}(mc:Mt LL B)(hn:top<=N)(hN:(AV.U N 0 len).bG=true)(hb:gl>50\/al>40\/len>2000)(k0:bg (aW<|nf 22) [(.U X 0 xl),i0]=some (.tuple [(i6 m),(.bool false)]))(k1:bg (aW tE) []=some (.bool true)):wL B (sF 3 Tryz.f3 [(.U X 0 xl),(.U A 0 al),(i6 ns),(.U G 0 gl),(.U N 0 len)])<|ak ar 270:=by exact HM mc (.st 4<|.rg<|.go 2<|.il<|.st 3<|.rg<|.go 1<|.kn (.tuple [(i6 m),(.bool false)])<|.go 5<|.en<|.st 1<|.rg<|.go 4<|.fk (.go 2<|.en<|.rt 1<|.go 14<|.en<|.st 2<|.rg<|.kn (.bool true)<|.go 1<|.en<|.rt 1 .no)<|.go 2<|.en<|.rt 1<|.go 3<|.fk (.go 10<|.en<|.st 2<|.rg<|.kn (.bool true)<|.go 1<|.en<|.rt 1 .no)<|.go 4<|.fk (.go 5<|.en<|.st 2<|.rg<|.kn (.bool true)<|.go 1<|.en<|.rt 1 .no)<|.no)<|ai k0<|ax ((gl:Int)>50) (fun _=>KL) fun _=>(ax ((al:Int)>40) (fun _=>KL) fun _=>(ax ((len:Int)>2000) (fun _=>KL) bF))
theorem s0N{len:Nat}{m:Int}(mc:Mt LL B)(hn:top<=N)(hN:(AV.U N 0 len).bG=true)(hb:gl<=50/\al<=40/\len<=2000)(hq:al<1\/al>32\/ns<1\/ns>(al:Int))(k0:bg (aW<|nf 22) [(.U X 0 xl),i0]=some (.tuple [(i6 m),(.bool false)]))(k1:bg (aW tE) []=some (.bool true))(k2:lB vH [(.U A 0 al),(i6 ns),(i6<|.ofNat 1099511627776)]=some (none,mA 1)):wL B (sF 3 Tryz.f3 [(.U X 0 xl),(.U A 0 al),(i6 ns),(.U G 0 gl),(.U N 0 len)])<|ak ar 270:=by exact HM mc (.st 4<|.rg<|.go 2<|.il<|.st 3<|.rg<|.go 1<|.kn (.tuple [(i6 m),(.bool false)])<|.go 5<|.en<|.st 1<|.rg<|.go 4<|.fk (.no)<|.go 2<|.en<|.rt 1<|.go 3<|.fk (.no)<|.go 4<|.fk (.no)<|.go 2<|.kn (.bool true)<|.go 2<|.en<|.st 3<|.rg<|.go 2<|.nt none (mA 1)<|.go 5<|.en<|.st 1<|.rg<|.go 5<|.il<|.st 4<|.rg<|.go 8<|.fk (.go 14<|.en<|.rt 4<|.go 5<|.en<|.rt 7 .no)<|.go 3<|.fk (.go 10<|.en<|.rt 4<|.go 5<|.en<|.rt 7 .no)<|.go 3<|.fk (.go 6<|.en<|.rt 4<|.go 5<|.en<|.rt 7 .no)<|.go 4<|.fk (.go 1<|.en<|.rt 4<|.go 5<|.en<|.rt 7 .no)<|.no)<|ai k0<|ax ((gl:Int)>50) bF fun _=>(ax ((al:Int)>40) bF fun _=>(ax ((len:Int)>2000) bF fun _=>(ai k1<|ai k2<|ax ((al:Int)<1) (fun _=>(show((.bool true):AV)= .bool true from rfl)) fun _=>(ax ((al:Int)>32) (fun _=>(show((.bool true):AV)= .bool true from rfl)) fun _=>(ax (ns<1) (fun _=>(show((.bool true):AV)= .bool true from rfl)) fun _=>(ax (ns>(al:Int)) (fun _=>(show((.bool true):AV)= .bool true from rfl)) bF))))))
theorem s0M{len:Nat}{m:Int}(mc:Mt LL B)(hn:top<=N)(hN:(AV.U N 0 len).bG=true)(hb:gl<=50/\al<=40/\len<=2000)(hq:1<=al/\al<=32/\1<=ns/\ns<=(al:Int))(k0:bg (aW<|nf 22) [(.U X 0 xl),i0]=some (.tuple [(i6 m),(.bool false)]))(k1:bg (aW tE) []=some (.bool true))(k2:lB vH [(.U A 0 al),(i6 ns),(i6<|.ofNat 1099511627776)]=some (some uh,mA 0))(k3:lB xP [(.U X 0 xl),(i6<|(al:Int)),(.U G 0 gl)]=some (none,mA 4)):wL B (sF 3 Tryz.f3 [(.U X 0 xl),(.U A 0 al),(i6 ns),(.U G 0 gl),(.U N 0 len)])<|ak ar 270:=by exact HM mc (.st 4<|.rg<|.go 2<|.il<|.st 3<|.rg<|.go 1<|.kn (.tuple [(i6 m),(.bool false)])<|.go 5<|.en<|.st 1<|.rg<|.go 4<|.fk (.no)<|.go 2<|.en<|.rt 1<|.go 3<|.fk (.no)<|.go 4<|.fk (.no)<|.go 2<|.kn (.bool true)<|.go 2<|.en<|.st 3<|.rg<|.go 2<|.nt (some uh) (mA 0)<|.go 5<|.en<|.st 1<|.rg<|.go 5<|.il<|.st 4<|.rg<|.go 8<|.fk (.no)<|.go 3<|.fk (.no)<|.go 3<|.fk (.no)<|.go 4<|.fk (.no)<|.go 1<|.en<|.st 3<|.rg<|.go 3<|.nt none (mA 4)<|.go 5<|.en<|.rt 7<|.go 5<|.en<|.rt 7 .no)<|ai k0<|ax ((gl:Int)>50) bF fun _=>(ax ((al:Int)>40) bF fun _=>(ax ((len:Int)>2000) bF fun _=>(ai k1<|ai k2<|ax ((al:Int)<1) bF fun _=>(ax ((al:Int)>32) bF fun _=>(ax (ns<1) bF fun _=>(ax (ns>(al:Int)) bF fun _=>(ai k3 (show((.bool true):AV)= .bool true from rfl))))))))
theorem s0K{len:Nat}{m:Int}(mc:Mt LL B)(hn:top<=N)(hN:(AV.U N 0 len).bG=true)(hb:gl<=50/\al<=40/\len<=2000)(hq:1<=al/\al<=32/\1<=ns/\ns<=(al:Int))(Ri:(AV.U T2 0 t2).bG=true)(k0:bg (aW<|nf 22) [(.U X 0 xl),i0]=some (.tuple [(i6 m),(.bool false)]))(k1:bg (aW tE) []=some (.bool true))(k2:lB vH [(.U A 0 al),(i6 ns),(i6<|.ofNat 1099511627776)]=some (some uh,mA 0))(k3:lB xP [(.U X 0 xl),(i6<|(al:Int)),(.U G 0 gl)]=some (some um,mA 0))(k4:lB Dd [i0,(i6 ns)]=some (some nk,fun p=>.tuple [p,.int .i64 0]))(k5:eR (dG aE yT) uh []=some ((.U T2 0 t2),uh))(H:p8 B uh um nk 1 0 (gl:Int) (al:Int) ns 0 N len T2 t2):wL B (sF 3 Tryz.f3 [(.U X 0 xl),(.U A 0 al),(i6 ns),(.U G 0 gl),(.U N 0 len)])<|ak ar 270:=by exact qV mc H (.st 4<|.rg<|.go 2<|.il<|.st 3<|.rg<|.go 1<|.kn (.tuple [(i6 m),(.bool false)])<|.go 5<|.en<|.st 1<|.rg<|.go 4<|.fk (.no)<|.go 2<|.en<|.rt 1<|.go 3<|.fk (.no)<|.go 4<|.fk (.no)<|.go 2<|.kn (.bool true)<|.go 2<|.en<|.st 3<|.rg<|.go 2<|.nt (some uh) (mA 0)<|.go 5<|.en<|.st 1<|.rg<|.go 5<|.il<|.st 4<|.rg<|.go 8<|.fk (.no)<|.go 3<|.fk (.no)<|.go 3<|.fk (.no)<|.go 4<|.fk (.no)<|.go 1<|.en<|.st 3<|.rg<|.go 3<|.nt (some um) (mA 0)<|.go 5<|.en<|.st 6<|.rg<|.go 1<|.nt (some nk) (fun p=>.tuple [p,.int .i64 0])<|.go 5<|.en<|.rt 8<|.go 5<|.en<|.st 6<|.rg<|.go 1<|.kt (.U T2 0 t2) uh<|.go 1<|.en<|.st 5<|(qW uh um nk 1 0 (gl:Int) (al:Int) ns 0 N len T2 t2 274))<|ai k0<|ax ((gl:Int)>50) bF fun _=>(ax ((al:Int)>40) bF fun _=>(ax ((len:Int)>2000) bF fun _=>(ai k1<|ai k2<|ax ((al:Int)<1) bF fun _=>(ax ((al:Int)>32) bF fun _=>(ax (ns<1) bF fun _=>(ax (ns>(al:Int)) bF fun _=>(ai k3<|ai k4<|ai k5<|yr yu uh um nk 1 0 (gl:Int) (al:Int) ns 0 274 hN Ri)))))))
theorem s0E{len:Nat}(mc:Mt LL B)(hn:top<=N)(hN:(AV.U N 0 len).bG=true)(hT:(AV.U T 0 tl).bG=true)(h1:(len:Int)<=i):p8 B uh um us w seen tq nv ns i N len T tl:=by exact HM mc (.st 2<|.rg<|.go 3<|.fk (.no)<|.en<|.rt 5 .no)<|ax (i<(len:Int)) bF fun _=>(show((.bool true):AV)= .bool true from rfl)
end
end Et
end
section
open Go Go.Rn Go.RowKit Go.Proofs
namespace GA
open cv fW eH gO zy pL qJ tT fc cG dt cR cW fw eV fL fN fS gg fT gh gP gQ g9 ia iF iW jH jI fy gZ kZ lE jT lW ni pO pP rV rW wv Eo D2 xO Ep EZ yb zD Et
def isT(r:R AV):Bool:=match r with| .ok (.bool true) _=>true|_=>false
theorem ae0:isT (vL pg (fun _=>0) 60 (.fn 5) [] ⟨dX,270,0,[],[]⟩)=true:=by as_aux_lemma=>kernel_rfl
theorem abN(hP:bE pg){L:bV}(h:aU L):aU<|V4::L:=by
 refine aaJ hP hZ qk iS ig h Tryz.func5 (body:=a9 pg 5 []) aX aX fun args v e=>?_;obtain⟨rfl,rfl⟩:=gH e;have q:=ae0;revert q;cases e:vL pg (fun _=>0) 60 (.fn 5) [] ⟨dX,270,0,[],[]⟩ with
 |bad=>intro q;cases q
 |ok x s1=>
  intro q;refine⟨60,s1,e.trans ?_⟩;cases x with
  |bool b=>cases b with
   |true=>rfl
   |false=>cases q
  |_=>cases q
theorem agt(hP:bE pg):aU LL:=Uo hP 22<|abN hP<|adg hP<|adf hP<|aaA hP<|ZN hP<|acA hP<|acB hP<|abl hP<|abk hP<|acI hP<|ZP hP<|aaD hP<|Zo hP<|aaE hP<|aaF hP<|abL hP<|Zp hP<|abK hP<|ac9 hP<|aeT hP<|acN hP<|aeu hP cJ
end GA
end
section
open Go Go.Rn Go.RowKit Go.Proofs
namespace Pz
open cv fW eH gO zy pL qJ tT fc cG dt cR cW fw eV fL fN fS gg fT gh gP gQ g9 ia iF iW jH jI fy gZ kZ lE jT lW ni pO pP rV rW wv Eo D2 xO Ep EZ yb zD BZ Gy Et GA
variable {s:Int} {rest:List AV} {k:Lk}
theorem o5{S:Type}{enc:S->AV}(inj:∀a b,enc a=enc b->a=b){f:S->List AV->Option (AV×S)}{a a':S}{y:AV}(h:f a rest=some (y,a'))(h1:rest.all AV.hi=true)(h2:y.hi=true):eR (dG enc f) (enc a) rest=some (y,enc a'):=adL ((AW inj).trans (by rw[h];rfl)) h1 h2
theorem rH{f:bC->List AV->Option AV}{a:bC}:bJ aE f (aE a) rest=f a rest:=Um re
theorem NK{l:List Lk}{z:Int}(hs:0<=s/\s<(l.length:Int))(hz:0<=z):cK (l.set s.toNat k) z=if z=s then k else cK l z:=by
 unfold cK;rw[List.getD_eq_getElem?_getD,List.getElem?_set];by_cases e:z=s
 ·subst e;rw[if_pos rfl,if_pos ae,if_pos rfl];rfl
 ·rw[if_neg ae,if_neg e,List.getD_eq_getElem?_getD]
theorem adi{l:List Int}{z k:Int}(hs:0<=s/\s<(l.length:Int))(hz:0<=z):kx (l.set s.toNat k) z=if z=s then k else kx l z:=by
 unfold kx;rw[List.getD_eq_getElem?_getD,List.getElem?_set];by_cases e:z=s
 ·subst e;rw[if_pos rfl,if_pos ae,if_pos rfl];rfl
 ·rw[if_neg ae,if_neg e,List.getD_eq_getElem?_getD]
structure om (nv ns c:Int) (a:bC):Prop where
 ok:gU a
 ln:(a.aF.length:Int)=ns
 vn:(a.aY.length:Int)=nv
 dA:a.dY=1099511627776
 E7:0<=a.ay/\a.ay<=c
 gq:∀z,0<=z->z<ns->(cK a.aF z).version<=a.ay
def Qd(nv ns rv:Int)(a:bC)(eD:List Int):Prop:=∀v,0<=v->v<nv->(cK a.aF<|Int.tmod v ns).version<=rv->kx a.aY v=kx eD v
structure CD (nv ns c:Int) (a a':bC):Prop where
 ok:om nv ns (c+1) a'
 le:a.ay<=a'.ay
 same:∀rv eD,rv<=a.ay->Qd nv ns rv a eD->Qd nv ns rv a' eD
section
variable {nv ns c:Int} {a:bC}
theorem tm{v:Int}(h0:0<=v)(hs:1<=ns):0<=Int.tmod v ns/\Int.tmod v ns<ns:=⟨Int.tmod_nonneg _ h0,Int.tmod_lt_of_pos _ ae⟩
theorem om.pos(h:om nv ns c a):1<=ns/\1<=nv:=by have h1:=h.ok.1.1;have h2:=h.ok.2.1.1;have:=h.ln;have:=h.vn;omega
theorem NL(h:om nv ns c a):CD nv ns c a a:=⟨⟨h.ok,h.ln,h.vn,h.dA,⟨h.E7.1,by have:=h.E7.2;omega⟩,h.gq⟩,by omega,fun _ _ _ h=>h⟩
theorem O2(h:om nv ns c a)(hs:0<=s/\s<ns)(hk:k.version=(cK a.aF s).version):CD nv ns c a<|m7 a s k:=by
 have Cn:0<=s/\s<(a.aF.length:Int):=by rw[h.ln];exact hs
 have hv:∀z,0<=z->(cK (a.aF.set s.toNat k) z).version=(cK a.aF z).version:=fun z hz=>by
  rw[NK Cn hz];split
  ·rename_i e;rw[hk,e]
  ·rfl
 refine⟨⟨F6 h.ok,?_,h.vn,h.dA,⟨h.E7.1,by have:=h.E7.2;show a.ay<=c+1;omega⟩,fun z h1 h2=>?_⟩,by show a.ay<=a.ay;omega,fun rv eD hr sK v h1 h2 h3=>?_⟩
 ·show(((a.aF.set s.toNat k).length:Nat):Int)=ns;rw[List.length_set];exact h.ln
 ·show(cK (a.aF.set s.toNat k) z).version<=a.ay;rw[hv z h1];exact h.gq z h1 h2
 ·have h3:(cK (a.aF.set s.toNat k)<|Int.tmod v ns).version<=rv:=h3;rw[hv _ (tm h1 h.pos.1).1] at h3;exact sK v h1 h2 h3
theorem Vk(h:om nv ns c a)(s bf:Int):CD nv ns c a<|kU a s bf:=by
 unfold kU;split
 ·rename_i q;exact O2 h (by have:=h.ln;omega) rfl
 ·exact NL h
theorem ae1(h:om nv ns c a)(s bf:Int):CD nv ns c a<|pK a s bf:=by
 unfold pK;split
 ·rename_i q;exact O2 h (by have:=h.ln;omega) rfl
 ·exact NL h
theorem agu(bf:Int):1<=IntKind.wrap .i64 (1+IntKind.wrap .i64 (Int.tmod (IntKind.wrap .u64 bf) 4))/\IntKind.wrap .i64 (1+IntKind.wrap .i64 (Int.tmod (IntKind.wrap .u64 bf) 4))<=4:=by
 have h0:0<=IntKind.wrap .u64 bf:=by show 0<=bf % 18446744073709551616;omega
 have h1:=Int.tmod_nonneg 4 h0;have h2:Int.tmod (IntKind.wrap .u64 bf) 4<4:=Int.tmod_lt_of_pos _ ae;rw[Mb (n:=Int.tmod (IntKind.wrap .u64 bf) 4) ae,Mb ae];omega
theorem agv(h:om nv ns c a)(hc:c<=2000){ah x bf:Int}(hw:1<=bf/\bf<=4)(cm:sX a ah= .int .i64 s)(ho:mz a s bf= .int .i64 0):
 ∃v a1 a2 a3 a4,kU a s bf=a1/\vA a1= .tuple [.int .i64 v,.int .i64 0]/\vB a1=a2/\rT a2 ah x= .int .i64 0/\rU a2 ah x=a3/\lR a3 s bf v= .int .i64 0/\lS a3 s bf v=a4/\CD nv ns c a a4:=by
 have hn:=h.ln;have Cc:=h.vn;have hl:=h.dA;have nZ:=h.E7;have hp:=h.pos;have hs:s=if 0<=ah/\ah<a.aY.length then Int.tmod ah (a.aF.length:Nat) else -1:=by unfold sX at cm;injection cm with _ cm;exact cm.symm
 have hO:(0<=s/\s<ns)/\(cK a.aF s).owner= -1:=by
  unfold mz at ho;injection ho with _ ho
  split at ho
  ·rename_i q1;rw[hn] at q1;split at ho
   ·split at ho
    ·rename_i q3;exact⟨q1,q3⟩
    ·omega
   ·omega
  ·omega
 obtain⟨LI,ajH⟩:=hO;have aB:0<=ah/\ah<nv:=by
  by_cases q:0<=ah/\ah<a.aY.length
  ·omega
  ·rw[if_neg q] at hs;omega
 have iK:s=Int.tmod ah ns:=by rw[hs,if_pos ae,hn]
 have ajI:0<=s/\s<(a.aF.length:Int):=by omega
 have e1:kU a s bf=m7 a s {cK a.aF s with owner:=bf}:=by unfold kU;rw[if_pos ⟨by omega,by omega,ajH⟩]
 have A1:=O2 h (s:=s) (k:={cK a.aF s with owner:=bf}) LI rfl;generalize hb:m7 a s {cK a.aF s with owner:=bf}=b at*;have XC:b.ay=a.ay:=by rw[←hb];rfl
 have hbv:b.aY=a.aY:=by rw[←hb];rfl
 have wJ:b.aF=a.aF.set s.toNat {cK a.aF s with owner:=bf}:=by rw[←hb];rfl
 have WL:b.dY=a.dY:=by rw[←hb];rfl
 have bB:b.ay<b.dY:=by rw[XC,WL,hl];omega
 have e2:vB b=oB b (b.ay+1):=by unfold vB;rw[if_pos bB]
 have y2:vA b= .tuple [.int .i64<|b.ay+1,.int .i64 0]:=by unfold vA;rw[if_pos bB]
 have Cp:(b.aY.length:Int)=nv:=A1.ok.vn;have ajJ:(b.aF.length:Int)=ns:=A1.ok.ln;have y3:rT (oB b<|b.ay+1) ah x= .int .i64 0:=by unfold rT;rw[if_pos (by show 0<=ah/\ah<(b.aY.length:Int);omega)]
 have e3:rU (oB b<|b.ay+1) ah x=oU (oB b<|b.ay+1) ah x:=by unfold rU;rw[if_pos (by show 0<=ah/\ah<(b.aY.length:Int);omega)]
 have Rj:cK b.aF s={cK a.aF s with owner:=bf}:=by rw[wJ,NK ajI LI.1,if_pos rfl]
 have am0:(cK a.aF s).version<=a.ay:=h.gq s LI.1 LI.2;have c1:0<=s/\s<(((oU (oB b<|b.ay+1) ah x).aF.length:Nat):Int):=by show 0<=s/\s<(b.aF.length:Int);omega
 have c2:0<=bf/\(cK (oU (oB b<|b.ay+1) ah x).aF s).owner=bf:=⟨by omega,by show(cK b.aF s).owner=bf;rw[Rj]⟩;have c3:(cK (oU (oB b<|b.ay+1) ah x).aF s).version<=b.ay+1/\b.ay+1<=(oU (oB b<|b.ay+1) ah x).ay:=by refine⟨?_,by show b.ay+1<=b.ay+1;omega⟩;show(cK b.aF s).version<=_;rw[Rj];show(cK a.aF s).version<=_;omega
 have y4:lR (oU (oB b<|b.ay+1) ah x) s bf (b.ay+1)= .int .i64 0:=by unfold lR;rw[if_pos c1,if_pos c2,if_pos c3]
 have e4:lS (oU (oB b<|b.ay+1) ah x) s bf (b.ay+1)=m7 (oU (oB b<|b.ay+1) ah x) s ⟨-1,b.ay+1⟩:=by unfold lS;rw[if_pos ⟨c1,c2,c3⟩]
 refine⟨b.ay+1,b,_,_,_,e1.trans rfl,y2,e2,y3,e3,y4,e4,?_⟩;have hbs:0<=s/\s<(b.aF.length:Int):=by omega
 have lv:∀z,0<=z->cK (b.aF.set s.toNat ⟨-1,b.ay+1⟩) z=if z=s then⟨-1,b.ay+1⟩ else cK b.aF z:=fun z hz=>NK hbs hz
 refine⟨⟨F6<|Ww<|VH A1.ok.ok,?_,?_,WL.trans hl,⟨?_,?_⟩,fun z h1 h2=>?_⟩,?_,fun rv eD hr sK v h1 h2 h3=>?_⟩
 ·show(((b.aF.set s.toNat _).length:Nat):Int)=ns;rw[List.length_set];exact ajJ
 ·show(((b.aY.set ah.toNat x).length:Nat):Int)=nv;rw[List.length_set];exact Cp
 ·show 0<=b.ay+1;omega
 ·show b.ay+1<=c+1;omega
 ·show(cK (b.aF.set s.toNat ⟨-1,b.ay+1⟩) z).version<=b.ay+1;rw[lv z h1];split
  ·show b.ay+1<=b.ay+1;omega
  ·have:=A1.ok.gq z h1 h2;omega
 ·show a.ay<=b.ay+1;omega
 ·have h3:(cK (b.aF.set s.toNat ⟨-1,b.ay+1⟩)<|Int.tmod v ns).version<=rv:=h3;show kx (b.aY.set ah.toNat x) v=_;rw[lv _ (tm h1 hp.1).1] at h3;by_cases q:Int.tmod v ns=s
  ·rw[if_pos q] at h3;have h3:b.ay+1<=rv:=h3;omega
  ·rw[if_neg q] at h3;rw[adi ae h1,if_neg fun e=>q<|by rw[e,iK]];exact A1.same rv eD hr sK v h1 h2 h3
end
end Pz
end
section
open Go Go.Rn Go.RowKit Go.Proofs
namespace PA
open cv fW eH gO zy pL qJ tT fc cG dt cR cW fw eV fL fN fS gg fT gh gP gQ g9 ia iF iW jH jI fy gZ kZ lE jT lW ni pO pP rV rW wv Eo D2 xO Ep EZ yb zD BZ Gy Et GA Pz
variable {c v s:Int}
noncomputable section
structure uF where
 kind:Int
 ah:Int
 bf:Int
 x:Int
def zU(t:uF):List AV:=[.int .u8 t.kind,.int .i64 t.ah,.int .i64 t.bf,.int .i64 t.x]
theorem eT:mw 4 zU:=⟨fun _=>rfl,fun _=>rfl⟩
abbrev nT(l:List uF):Nat:=nm (l.map zU).flatten
abbrev nI(l:List Int):Nat:=nm (l.map bj).flatten
theorem dH{cs:List AV}{n:Nat}:(AV.U (nm cs) 0 n).bG=true:=aM.2<|cr _
abbrev Qe:(Tr AV->List Nat->Option Code->AS->Prop):=Fin pg (az Tryz.f3) fun y _=>y= .bool true
abbrev Rk(B:aL)(i:Int)(l:List uF)(eD:List Int)(a:bC)(q:jq)(m:dW)(w seen tq nv ns:Int):Prop:=au pg B 270 Qe (yu i (nT l) l.length (nI eD) eD.length)<|ak (ar++An (aE a) (dk m) (jG q) w seen tq nv ns) 274
abbrev YG(B:aL)(i:Int)(l:List uF)(eD:List Int)(a:bC)(q:jq)(m:dW)(w seen tq nv ns:Int):Prop:=au pg B 270 Qe (Hx i (nT l) l.length (nI eD) eD.length)<|ak (ar++An (aE a) (dk m) (jG q) w seen tq nv ns) 274
theorem ajK{B:aL}(mc:Mt LL B){l:List uF}{eD:List Int}{k:Nat}{e:uF}(hl:l.length<=2000)(he:l[k]? =some e){a:bC}{nv ns:Int}(h:om nv ns (k:Int) a):
 ∃a',CD nv ns (k:Int) a a'/\∀(q:jq) (m:dW) (w seen tq:Int),YG B (k:Int) l eD a' q m w seen tq nv ns->Rk B (k:Int) l eD a q m w seen tq nv ns:=by
 have hk:=(List.getElem?_eq_some_iff.1 he).1;have h0:(0:Int)<=(k:Int):=by omega
 have h1:(k:Int)<(l.length:Int):=by omega
 have hx:cT FU (nT l) (0+(k:Int).toNat*4+0) 4=some [.int .u8 e.kind,.int .i64 e.ah,.int .i64 e.bf,.int .i64 e.x]:=by rw[Int.toNat_natCast,Nat.zero_add];exact Bi eT he 0 4 ae
 by_cases k1:e.kind=1
 ·exact⟨_,Vk h _ _,fun q m w seen tq H=>tn1 mc (cr _) dH dH h0 hl h1 hx k1 (o5 re (f:=zM) rfl rfl rfl) H⟩
 by_cases k2:e.kind=2
 ·exact⟨_,ae1 h _ _,fun q m w seen tq H=>tn2 mc (cr _) dH dH h0 hl h1 hx k2 (o5 re (f:=KR) rfl rfl rfl) H⟩
 by_cases k5:e.kind=5
 ·have cm:∃s,sX a e.ah= .int .i64 s:=⟨_,rfl⟩;obtain⟨s,cm⟩:=cm;have hv:bJ aE ny (aE a) [.int .i64 e.ah]=some (.int .i64 s):=rH.trans<|congrArg some cm;obtain⟨r,hr⟩:∃r,mz a s (IntKind.wrap .i64<|1+IntKind.wrap .i64 (Int.tmod (IntKind.wrap .u64 e.bf) 4))= .int .i64 r:=⟨_,rfl⟩;by_cases r0:r=0
  ·subst r0;obtain⟨v,a1,a2,a3,a4,e1,y2,e2,y3,e3,y4,e4,A⟩:=agv (x:=e.x) h ae (agu e.bf) cm hr;refine⟨a4,A,fun q m w seen tq H=>ajF mc (cr _) dH dH h0 hl h1 hx k5 hv (u1:=aE a1) (u2:=aE a2) (u3:=aE a3) (v:=v) (o5 re (f:=zM) ?_ rfl rfl) (o5 re (f:=Kl) ?_ rfl rfl) (o5 re (f:=KV) ?_ rfl rfl) (o5 re (f:=Kk) ?_ rfl rfl) H⟩
   ·show some (mz a _ _,kU a _ _)=_;rw[hr,e1];rfl
   ·show some (vA a1,vB a1)=_;rw[y2,e2];rfl
   ·show some (rT a2 _ _,rU a2 _ _)=_;rw[y3,e3];rfl
   ·show some (lR a3 _ _ _,lS a3 _ _ _)=_;rw[y4,e4];rfl
  ·refine⟨kU a s<|IntKind.wrap .i64<|1+IntKind.wrap .i64 (Int.tmod (IntKind.wrap .u64 e.bf) 4),Vk h s _,fun q m w seen tq H=>ajE mc (cr _) dH dH h0 hl h1 hx k5 r0 hv (o5 re (f:=zM) ?_ rfl rfl) H⟩;show some (mz a _ _,kU a _ _)=_;rw[hr]
 ·exact⟨a,NL h,fun q m w seen tq H=>tnO mc (cr _) dH dH h0 hl h1 hx ⟨k1,k2,k5⟩ H⟩
structure yE (nv ns c d:Int) (a:bC) (q:jq) (m:dW) (w seen:Int) (eD:List Int):Prop where
 h:om nv ns c a
 so:pz q
 mi:mQ m
 st:0<=m.steps/\m.steps<=d
 mv:m.vars=nv
 wh:w=1\/(((w=2/\eW m=(1,0,0))\/(w=3/\∃v,eW m=(2,v,0))\/(w=4/\(∃v,eW m=(2,v,0))/\seen<=q.rv)\/5<=w)/\(eD.length:Int)=nv/\q.rv<=a.ay/\Qd nv ns q.rv a eD)
theorem Qf{m:dW}(hm:mQ m)(hs:0<=m.steps/\m.steps<=1000000000000):bJ dk (fun a rest=>(kf a rest).map (·.1)) (dk m) []=some (BX<|eW m):=by refine(Um CQ).trans ?_;unfold kf;rw[if_pos ⟨rfl,hm.ask hs⟩];rfl
theorem PB{m:dW}(hm:mQ m)(hs:0<=m.steps/\m.steps<=1000000000000):∃an xn,
 (bJ dk (fun a rest=>(kf a rest).map (·.1)) (dk m) []=some (.agg [.int .u8<|.ofNat 1,.int .i64 an,.int .i64 xn])/\eW m=(1,0,0))\/
 (bJ dk (fun a rest=>(kf a rest).map (·.1)) (dk m) []=some (.agg [.int .u8<|.ofNat 2,.int .i64 an,.int .i64 xn])/\∃v,eW m=(2,v,0))\/
 bJ dk (fun a rest=>(kf a rest).map (·.1)) (dk m) []=some (.agg [.int .u8<|.ofNat 3,.int .i64 an,.int .i64 xn])\/
 bJ dk (fun a rest=>(kf a rest).map (·.1)) (dk m) []=some (.agg [.int .u8<|.ofNat 4,.int .i64 an,.int .i64 xn]):=by
 have hx:=Qf hm hs;rcases M7 hm with e|⟨v,e,_⟩|⟨x,e⟩|e
 ·rw[e] at hx;exact⟨0,0,.inl ⟨hx,e⟩⟩
 ·rw[e] at hx;exact⟨v,0,.inr<|.inl ⟨hx,v,e⟩⟩
 ·rw[e] at hx;exact⟨0,x,.inr<|.inr<|.inl hx⟩
 ·rw[e] at hx;exact⟨0,0,.inr<|.inr<|.inr hx⟩
section
variable {B:aL} {l:List uF} {eD:List Int} {k:Nat} {nv ns tq w seen:Int} {a:bC} {q:jq} {m:dW}
theorem ae2(h:om nv ns c a):bJ aE oV (aE a) []=some (.int .i64 nv):=by refine rH.trans<|congrArg some ?_;show AV.int .i64 (a.aY.length:Int)=_;rw[h.vn]
theorem aaK(h:om nv ns c a):bJ aE ov (aE a) []=some (.int .i64 ns):=by refine rH.trans<|congrArg some ?_;show AV.int .i64 (a.aF.length:Int)=_;rw[h.ln]
theorem Tw(h:om nv ns c a)(hv:0<=v/\v<nv):bJ aE ny (aE a) [.int .i64 v]=some (i6<|Int.tmod v ns):=by refine rH.trans<|congrArg some ?_;show AV.int .i64 (if 0<=v/\v<(a.aY.length:Int) then Int.tmod v (a.aF.length:Int) else -1)=_;rw[h.vn,h.ln,if_pos hv]
theorem Ur(h:om nv ns c a)(hs:0<=s/\s<ns):bJ aE tD (aE a) [.int .i64 s]=some (i6 (cK a.aF s).owner):=by refine rH.trans<|congrArg some ?_;show AV.int .i64 (if 0<=s/\s<(a.aF.length:Int) then(cK a.aF s).owner else -1)=_;rw[h.ln,if_pos hs]
theorem SF(h:om nv ns c a)(hs:0<=s/\s<ns):bJ aE ri (aE a) [.int .i64 s]=some (i6 (cK a.aF s).version):=by refine rH.trans<|congrArg some ?_;show AV.int .i64 (if 0<=s/\s<(a.aF.length:Int) then(cK a.aF s).version else 0)=_;rw[h.ln,if_pos hs]
theorem adj(h:om nv ns c a)(hv:0<=v/\v<nv):bJ aE Gg (aE a) [.int .i64 v]=some (i6<|kx a.aY v):=by refine rH.trans<|congrArg some ?_;show AV.int .i64 (if 0<=v/\v<(a.aY.length:Int) then kx a.aY v else 0)=_;rw[h.vn,if_pos hv]
theorem step(mc:Mt LL B)(hk:k<=2000)(ok:yE nv ns ((k:Int)+1) k a q m w seen eD):
  ∃q' m' w' PC Qg,yE nv ns ((k:Int)+1) ((k:Int)+1) a q' m' w' PC Qg/\(Rk B ((k:Int)+1) l Qg a q' m' w' PC tq nv ns->YG B (k:Int) l eD a q m w seen tq nv ns):=by
 obtain⟨h,hq,hm,cm,Ao,hw⟩:=ok
 have h0:(0:Int)<=(k:Int):=by omega
 have hl:(k:Int)<=2000:=by omega
 have hp:=h.pos
 have am1:=h.E7
 have v9:=h.ln
 have Rj:=h.ok.1.2
 have kV:=ae2 h
 have kS:=aaK h
 have Eu:0<=m.steps/\m.steps<=(k:Int)+1:=by omega
 rcases hw with rfl|⟨hw,CE,CF,sK⟩
 ·
  have dq:¬(a.ay<0\/a.ay>1099511627776\/ns<1\/ns>32):=by omega
  have kC:bJ aE DC (aE a) []=some (.int .i64 a.ay):=rH
  have kN:lB Dd [.int .i64 a.ay,.int .i64 ns]=some (some<|jG<|oY a.ay ns,fun p=>.tuple [p,.int .i64 0]):=by
   refine I5 ?_ rfl
   show(if a.ay<0\/a.ay>1099511627776\/ns<1\/ns>32 then _ else _)=_
   rw[if_neg dq]
  have kL:eR (dG aE yT) (aE a) []=some (.U (nI a.aY) 0 a.aY.length,aE a):=o5 re (f:=yT) rfl rfl (eh.aS eI _).hi
  have sok:pz<|oY a.ay ns:=⟨by unfold zn;show -9223372036854775808<=a.ay/\a.ay<=9223372036854775807;omega,by show 1<=ns/\ns<=32;omega,rfl⟩
  have fin:∀w',((w'=2/\eW m=(1,0,0))\/(w'=3/\∃v,eW m=(2,v,0))\/(w'=4/\(∃v,eW m=(2,v,0))/\seen<=(oY a.ay ns).rv)\/5<=w')->yE nv ns ((k:Int)+1) ((k:Int)+1) a (oY a.ay ns) m w' seen a.aY:=fun w' HN=>
   ⟨h,sok,hm,Eu,Ao,.inr ⟨HN,h.vn,by show a.ay<=a.ay;omega,fun _ _ _ _=>rfl⟩⟩
  obtain⟨an,xn,e⟩:=PB hm ae
  rcases e with⟨kA,e⟩|⟨kA,e⟩|kA|kA
  ·exact⟨_,m,2,seen,_,fin 2<|.inl ⟨rfl,e⟩,fun H=>gu (.inl ⟨rfl,rfl⟩) (w:=0) mc (cr _) dH dH h0 hl dH kV kS kC kN kA kL H⟩
  ·exact⟨_,m,3,seen,_,fin 3<|.inr<|.inl ⟨rfl,e⟩,fun H=>gu (.inr<|.inl ⟨rfl,rfl⟩) (w:=0) mc (cr _) dH dH h0 hl dH kV kS kC kN kA kL H⟩
  ·exact⟨_,m,5,seen,_,fin 5<|.inr<|.inr<|.inr ae,fun H=>gu (.inr<|.inr<|.inl ⟨rfl,rfl⟩) (w:=0) mc (cr _) dH dH h0 hl dH kV kS kC kN kA kL H⟩
  ·exact⟨_,m,6,seen,_,fin 6<|.inr<|.inr<|.inr ae,fun H=>gu (.inr<|.inr<|.inr ⟨rfl,rfl⟩) (w:=0) mc (cr _) dH dH h0 hl dH kV kS kC kN kA kL H⟩
 rcases hw with⟨rfl,ha⟩|⟨rfl,v,ha⟩|⟨rfl,⟨v,ha⟩,XW⟩|hw
 ·
  obtain⟨hd,m',hs,eg,ja,iK,_⟩:=Nn hm ae ha
  have kT:eR (dG dk D1) (dk m) []=some (i6<|.ofNat 0,dk m'):=by
   refine o5 CQ (f:=D1) ?_ rfl rfl
   unfold D1;rw[if_pos ⟨rfl,hd⟩,hs];rfl
  have fin:∀w',((w'=2/\eW m'=(1,0,0))\/(w'=3/\∃v,eW m'=(2,v,0))\/(w'=4/\(∃v,eW m'=(2,v,0))/\seen<=q.rv)\/5<=w')->yE nv ns ((k:Int)+1) ((k:Int)+1) a q m' w' seen eD:=fun w' HN=>
   ⟨h,hq,eg,by omega,iK.trans Ao,.inr ⟨HN,CE,CF,sK⟩⟩
  obtain⟨an,xn,e⟩:=PB eg ae
  rcases e with⟨kA,e⟩|⟨kA,e⟩|kA|kA
  ·exact⟨q,m',2,seen,eD,fin 2<|.inl ⟨rfl,e⟩,fun H=>iB (.inl ⟨rfl,rfl⟩) (w:=0) mc (cr _) dH dH h0 hl kV kS kT kA H⟩
  ·exact⟨q,m',3,seen,eD,fin 3<|.inr<|.inl ⟨rfl,e⟩,fun H=>iB (.inr<|.inl ⟨rfl,rfl⟩) (w:=0) mc (cr _) dH dH h0 hl kV kS kT kA H⟩
  ·exact⟨q,m',5,seen,eD,fin 5<|.inr<|.inr<|.inr ae,fun H=>iB (.inr<|.inr<|.inl ⟨rfl,rfl⟩) (w:=0) mc (cr _) dH dH h0 hl kV kS kT kA H⟩
  ·exact⟨q,m',6,seen,eD,fin 6<|.inr<|.inr<|.inr ae,fun H=>iB (.inr<|.inr<|.inr ⟨rfl,rfl⟩) (w:=0) mc (cr _) dH dH h0 hl kV kS kT kA H⟩
 ·
  have hv:0<=v/\v<nv:=by
   rcases M7 hm with e|⟨v',e,b1,b2⟩|⟨x,e⟩|e<;>rw[ha] at e
   ·injection e with e _;omega
   ·injection e with _ e;injection e with e _;omega
   ·injection e with e _;omega
   ·injection e with e _;omega
  have kA:bJ dk (fun a rest=>(kf a rest).map (·.1)) (dk m) []=some (.agg [.int .u8 2,.int .i64 v,.int .i64 0]):=(Qf hm ae).trans (by rw[ha];rfl)
  have hs:=tm (ns:=ns) hv.1 hp.1
  have kT:=Tw h hv
  have kO:=Ur h hs
  have kE:=SF h hs
  by_cases c1:(cK a.aF<|Int.tmod v ns).owner≠ -1
  ·refine⟨q,m,7,seen,eD,⟨h,hq,hm,Eu,Ao,.inr ⟨.inr<|.inr<|.inr ae,CE,CF,sK⟩⟩,fun H=>Xx (w:=0) mc (cr _) dH dH h0 hl (Cf:=1) ae kV kS kA kT kO kE (o5 C2 (f:=BD) ?_ rfl rfl) H⟩
   show some (pA _ _ _,_)=_;unfold pA;rw[if_pos c1]
  by_cases c2:(cK a.aF<|Int.tmod v ns).version>q.rv
  ·refine⟨q,m,7,seen,eD,⟨h,hq,hm,Eu,Ao,.inr ⟨.inr<|.inr<|.inr ae,CE,CF,sK⟩⟩,fun H=>Xx (w:=0) mc (cr _) dH dH h0 hl (Cf:=2) ae kV kS kA kT kO kE (o5 C2 (f:=BD) ?_ rfl rfl) H⟩
   show some (pA _ _ _,_)=_;unfold pA;rw[if_neg c1,if_pos c2]
  ·refine⟨q,m,4,_,eD,⟨h,hq,hm,Eu,Ao,.inr ⟨.inr<|.inr<|.inl ⟨rfl,⟨v,ha⟩,by omega⟩,CE,CF,sK⟩⟩,fun H=>stK (w:=0) mc (cr _) dH dH h0 hl kV kS kA kT kO kE (o5 C2 (f:=BD) ?_ rfl rfl) H⟩
   show some (pA _ _ _,_)=_;unfold pA;rw[if_neg c1,if_neg c2];rfl
 ·
  have hv:0<=v/\v<nv:=by
   rcases M7 hm with e|⟨v',e,b1,b2⟩|⟨x,e⟩|e<;>rw[ha] at e
   ·injection e with e _;omega
   ·injection e with _ e;injection e with e _;omega
   ·injection e with e _;omega
   ·injection e with e _;omega
  have kA:bJ dk (fun a rest=>(kf a rest).map (·.1)) (dk m) []=some (.agg [.int .u8 2,.int .i64 v,.int .i64 0]):=(Qf hm ae).trans (by rw[ha];rfl)
  have hs:=tm (ns:=ns) hv.1 hp.1
  have kT:=Tw h hv
  have kO:=Ur h hs
  have kE:=SF h hs
  by_cases c1:(cK a.aF<|Int.tmod v ns).owner≠ -1\/(cK a.aF<|Int.tmod v ns).version≠seen
  ·exact⟨q,m,7,seen,eD,⟨h,hq,hm,Eu,Ao,.inr ⟨.inr<|.inr<|.inr ae,CE,CF,sK⟩⟩,fun H=>ajG (w:=0) mc (cr _) dH dH h0 hl c1 kV kS kA kT kO kE H⟩
  have c2:(cK a.aF<|Int.tmod v ns).owner= -1:=by omega
  have c3:(cK a.aF<|Int.tmod v ns).version=seen:=by omega
  rw[c2] at kO
  rw[c3] at kE
  have hx:kx a.aY v=kx eD v:=sK v hv.1 hv.2 ae
  have kX:=adj h hv
  have E5:cT FU (nI eD) (0+v.toNat*1+0) 1=some [.int .i64<|kx a.aY v]:=by
   rw[hx,Nat.zero_add]
   exact Bi eI (Ki hv.1 ae) 0 1 ae
  obtain⟨hd,m',Cn,eg,ja,iK,_⟩:=aeX hm ae ha<|kx a.aY v
  have kM:eR (dG dk BY) (dk m) [.int .i64<|kx a.aY v]=some (i6<|.ofNat 0,dk m'):=by
   refine o5 CQ (f:=BY) ?_ rfl rfl
   have e1:BY m [.int .i64<|kx a.aY v]=(A6 m<|kx a.aY v).map fun a'=>(AV.int .i64 0,a'):=by unfold BY;exact if_pos hd
   rw[e1,Cn];rfl
  have Xy:(oZ q<|Int.tmod v ns).rv=q.rv:=by unfold oZ;split<;>rfl
  have hqo:pz<|oZ q<|Int.tmod v ns:=by
   unfold oZ
   split
   ·exact hq
   ·exact U0 hq
  have kQ:eR (dG jG G5) (jG q) [.int .i64<|Int.tmod v ns]=some (i6 (if Int.tmod v ns<0\/Int.tmod v ns>=q.rk then 1 else 0),jG<|oZ q<|Int.tmod v ns):=o5 C2 (f:=G5) rfl rfl rfl
  have fin:∀w',((w'=2/\eW m'=(1,0,0))\/(w'=3/\∃v,eW m'=(2,v,0))\/(w'=4/\(∃v,eW m'=(2,v,0))/\seen<=(oZ q<|Int.tmod v ns).rv)\/5<=w')->yE nv ns ((k:Int)+1) ((k:Int)+1) a (oZ q<|Int.tmod v ns) m' w' seen eD:=fun w' HN=>
   ⟨h,hqo,eg,by omega,iK.trans Ao,.inr ⟨HN,CE,by rw[Xy];exact CF,by rw[Xy];exact sK⟩⟩
  have aB:0<=v/\v<(eD.length:Int):=by omega
  obtain⟨an,xn,e⟩:=PB eg ae
  rcases e with⟨kB,e⟩|⟨kB,e⟩|kB|kB
  ·exact⟨_,m',2,seen,eD,fin 2<|.inl ⟨rfl,e⟩,fun H=>LH (.inl ⟨rfl,rfl⟩) (w:=0) mc (cr _) dH dH h0 hl (cr _) aB E5 kV kS kA kT kO kE kX kM kQ kB H⟩
  ·exact⟨_,m',3,seen,eD,fin 3<|.inr<|.inl ⟨rfl,e⟩,fun H=>LH (.inr<|.inl ⟨rfl,rfl⟩) (w:=0) mc (cr _) dH dH h0 hl (cr _) aB E5 kV kS kA kT kO kE kX kM kQ kB H⟩
  ·exact⟨_,m',5,seen,eD,fin 5<|.inr<|.inr<|.inr ae,fun H=>LH (.inr<|.inr<|.inl ⟨rfl,rfl⟩) (w:=0) mc (cr _) dH dH h0 hl (cr _) aB E5 kV kS kA kT kO kE kX kM kQ kB H⟩
  ·exact⟨_,m',6,seen,eD,fin 6<|.inr<|.inr<|.inr ae,fun H=>LH (.inr<|.inr<|.inr ⟨rfl,rfl⟩) (w:=0) mc (cr _) dH dH h0 hl (cr _) aB E5 kV kS kA kT kO kE kX kM kQ kB H⟩
 ·exact⟨q,m,w,seen,eD,⟨h,hq,hm,Eu,Ao,.inr ⟨.inr<|.inr<|.inr hw,CE,CF,sK⟩⟩,fun H=>stX mc (cr _) dH dH h0 hl ae H⟩
theorem yE.adv{d:Int}{a':bC}(ok:yE nv ns c d a q m w seen eD)(A:CD nv ns c a a'):yE nv ns (c+1) d a' q m w seen eD:=by
 refine⟨A.ok,ok.so,ok.mi,ok.st,ok.mv,?_⟩;rcases ok.wh with e|⟨e1,e2,e3,e4⟩
 ·exact .inl e
 ·exact .inr ⟨e1,e2,by have:=A.le;omega,A.same _ _ e3 e4⟩
theorem rounds(mc:Mt LL B)(hl:l.length<=2000):∀(r k:Nat) {a:bC} {q:jq} {m:dW} {w seen:Int} {eD:List Int},k+r=l.length->yE nv ns k k a q m w seen eD->Rk B (k:Int) l eD a q m w seen tq nv ns
 |0,k,a,q,m,w,seen,eD,hr,ok=>s0E mc (cr _) dH dH ae
 |r+1,k,a,q,m,w,seen,eD,hr,ok=>by
  obtain⟨e,he⟩:∃e,l[k]? =some e:=⟨_,List.getElem?_eq_getElem ae⟩;obtain⟨a',A,T⟩:=ajK mc (eD:=eD) hl he ok.h;obtain⟨q',m',w',PC,Qg,YH,G⟩:=step (l:=l) (tq:=tq) mc ae<|ok.adv A;refine T q m w seen tq<|G ?_;have e1:(k:Int)+1=((k+1:Nat):Int):=by omega
  rw[e1] at YH ⊢;exact rounds mc hl r (k+1) ae YH
end
end
end PA
end
section
open Go Go.Rn Go.RowKit Go.Proofs
namespace WM
open cv fW eH nQ nE ue qx zO BB gO zy pL qJ tT fc cG dt cR cW fw eV fL fN fS gg fT gh gP gQ g9 ia iF iW jH jI fy gZ kZ lE jT lW ni pO pP rV rW wv Eo D2 xO Ep EZ yb zD BZ Gy Py Et GA Pz PA
theorem abO{B:aL}(mc:Mt LL B){tx:List St}{init aO:List Int}{st:Int}{l:List uF}(hk:rM 60 tx):
 au pg B 270 Qe (sF 3 Tryz.f3 [.U (nm (tx.map aP).flatten) 0 tx.length,aS bj init,.int .i64 st,aS bj aO,aS zU l]) (ak ar 270):=by
 have YI:(AV.U (nm (tx.map aP).flatten) 0 tx.length).hi=true:=by rw[←vh];exact tz tx
 have kA:bg (aW tE) []=some (.bool true):=fH (fB tE.bW ⟨rfl,rfl⟩) rfl rfl;have kM:bg (aW<|nf 22) [.U (nm (tx.map aP).flatten) 0 tx.length,.int .i64<|.ofNat 0]=some (.tuple [.int .i64 (cX 22 tx).1,.bool (cX 22 tx).2]):=fH (fB nf.bW ⟨tx,by rw[vh];rfl,by omega,rfl⟩) (by rw[List.all_cons,YI];rfl) rfl;cases hm:(cX 22 tx).2 with
 |true=>rw[hm] at kM;exact s0L mc (cr _) dH kM kA
 |false=>
  rw[hm] at kM;by_cases hb:aO.length>50\/init.length>40\/l.length>2000
  ·exact s0B mc (cr _) dH hb kM kA
  have iI:aO.length<=50/\init.length<=40/\l.length<=2000:=by omega
  have YJ:[aS bj init,AV.int .i64 st,AV.int .i64<|.ofNat 1099511627776].all AV.hi=true:=by rw[List.all_cons,(eh.aS eI init).hi];rfl
  by_cases hq:init.length<1\/init.length>32\/st<1\/st>(init.length:Int)
  ·have kH:lB vH [aS bj init,.int .i64 st,.int .i64<|.ofNat 1099511627776]=some (none,mA 1):=UK (Uk ⟨init,_,_,st,1099511627776,rfl,eh.aS eI init,.inl ⟨by omega,rfl⟩⟩) YJ rfl;exact s0N mc (cr _) dH iI hq kM kA kH
  have dU:1<=init.length/\init.length<=32/\1<=st/\st<=(init.length:Int):=by omega
  have kH:lB vH [aS bj init,.int .i64 st,.int .i64<|.ofNat 1099511627776]=some (some<|aE ⟨List.replicate st.toNat ⟨-1,0⟩,0,1099511627776,init⟩,mA 0):=I5 (Uk ⟨init,_,_,st,1099511627776,rfl,eh.aS eI init,.inr ⟨by omega,rfl⟩⟩) YJ;have YK:[AV.U (nm (tx.map aP).flatten) 0 tx.length,.int .i64 (init.length:Int),aS bj aO].all AV.hi=true:=by rw[List.all_cons,YI,List.all_cons,List.all_cons,(eh.aS eI aO).hi];rfl
  obtain⟨d1,d2⟩:=CR 22 60 tx ae hm;obtain⟨b,ua,aih⟩:=adh (n:=aO.length) hm hk;have hv:1<=(init.length:Int)/\(init.length:Int)<=32:=by omega
  cases b with
  |false=>have kN:lB xP [.U (nm (tx.map aP).flatten) 0 tx.length,.int .i64 (init.length:Int),aS bj aO]=some (none,mA 4):=UK (Uj ⟨tx,_,aO,_,_,rfl,eh.aS eI aO,by omega,.inr ⟨hv,d2,d1,false,ua,.inl ⟨rfl,rfl⟩⟩⟩) YK rfl;exact s0M mc (cr _) dH iI dU kM kA kH kN
  |true=>
   obtain⟨gc,wf⟩:=aih rfl;obtain⟨fs,bb,hs,hmi⟩:=aeY (aO:=aO) wf ae hv;have kN:lB xP [.U (nm (tx.map aP).flatten) 0 tx.length,.int .i64 (init.length:Int),aS bj aO]=some (some<|dk ⟨(init.length:Int),aO,Z8,bb,fs.reverse,0⟩,mA 0):=I5 (Uj ⟨tx,_,aO,_,_,rfl,eh.aS eI aO,by omega,.inr ⟨hv,d2,d1,true,ua,.inr ⟨rfl,gc,fs,bb,hs,rfl⟩⟩⟩) YK;have kS:lB Dd [.int .i64<|.ofNat 0,.int .i64 st]=some (some<|jG<|oY 0 st,fun p=>.tuple [p,.int .i64 0]):=by refine I5 ?_ rfl;show(if(0:Int)<0\/(0:Int)>1099511627776\/st<1\/st>32 then _ else _)=_;rw[if_neg ae];rfl
   have kV:eR (dG aE yT) (aE ⟨List.replicate st.toNat ⟨-1,0⟩,0,1099511627776,init⟩) []=some (aS bj init,aE ⟨List.replicate st.toNat ⟨-1,0⟩,0,1099511627776,init⟩):=o5 re (f:=yT) rfl rfl (eh.aS eI _).hi;refine s0K mc (cr _) dH iI dU dH kM kA kH kN kS kV ?_;refine rounds mc iI.2.2 l.length 0 ae (a:=⟨List.replicate st.toNat ⟨-1,0⟩,0,1099511627776,init⟩) (q:=oY 0 st) ⟨⟨⟨?_,?_,?_,?_⟩,?_,rfl,rfl,?_,?_⟩,?_,hmi,?_,rfl,.inl rfl⟩
   ·show 1<=(List.replicate st.toNat _).length/\(List.replicate st.toNat _).length<=32;rw[List.length_replicate];omega
   ·show 1<=init.length/\init.length<=32;omega
   ·show(0:Int)<=0;omega
   ·show(1099511627776:Int)<=1099511627776;omega
   ·show(((List.replicate st.toNat (⟨-1,0⟩:Lk)).length:Nat):Int)=st;rw[List.length_replicate];omega
   ·exact⟨by show(0:Int)<=0;omega,by show(0:Int)<=(0:Int);omega⟩
   ·intro z h1 h2;show(cK (List.replicate st.toNat ⟨-1,0⟩) z).version<=0;unfold cK;rw[List.getD_eq_getElem?_getD,List.getElem?_replicate,if_pos ae];show(0:Int)<=0;omega
   ·exact⟨by unfold zn;show -9223372036854775808<=(0:Int)/\(0:Int)<=9223372036854775807;omega,by show 1<=st/\st<=32;omega,rfl⟩
   ·exact⟨by show(0:Int)<=0;omega,by show(0:Int)<=(0:Int);omega⟩
end WM
end
