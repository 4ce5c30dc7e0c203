import Derived.Test.YtaooegdfpnfncaaGreatDoorRnGA
import Derived.MapKept
import Derived.AtR
import Derived.Orders
import Derived.RangeFuncIn
import Derived.RangeFuncLeaves
import Derived.Maps.RangeRun
set_option maxRecDepth 100000
set_option maxHeartbeats 8000000
set_option linter.unusedSimpArgs false
set_option linter.unusedVariables false
namespace Go.Rn
open Go.RowKit
variable {α:Type} {vb va:Value} {v:α} {ts:Array TypeId} {size n:Nat} {s2:AS} {a:AV}
theorem SH.cG{m:M α}(hm:SH m){s s1:AS}(fi:bE s)(h:m s= .ok v s1):bE s1:=by obtain⟨dr,dw,d,_⟩:=hm s v s1 fi h;exact d.cG fi
theorem SH.le{m:M α}(hm:SH m){s s1:AS}(fi:bE s)(h:m s= .ok v s1):s.nx<=s1.nx:=by obtain⟨dr,dw,d,_⟩:=hm s v s1 fi h;exact d.nx
section
variable {P:Program} {B:aJ} {ρ:aw} {w:World} {s s1:AS} {x:AV} {SI:aO} {t:Tr AV} {ev:Operand->Value} {o:Oper}
theorem jR.nx{c:Sem Value}(h:jR P B ρ s2 s1 w x c)(e:s2.nx=s.nx):jR P B ρ s s1 w x c:=by unfold jR at h ⊢;rw[e] at h;exact h
theorem S8{elem sT:TypeId}{len c m b N:Nat}{xv:Value}{xt:Option TypeId}{args:Array TypeId}{dG new:List AV}{vn:Array Value}{p:ae}{bytes:Nat}{vo:List Value}(hu:P.underlying sT=some (.slice elem))(yT:args[0]? =some sT)(uU:args[1]? =xt)(hx:pP P xt=true)(hi:eC P elem=some size)(hn:(Builtin.lenOf xv).run P w= .ok n w)(hle:len+n<=c)(r:Rel B ρ s.h w)(ht:m<top)(hg:s.h.get m=some p)(hp:p.zJ=true)(hm:ρ m=some (b,N))(hc:c*size<=N)(hf:dJ s.nx s1.nx ρ)(gI:dG.length=len*size)(yU:new.length=n*size)(im:s2.h=s.h.put m none)(Rt:s2.nx=s.nx)(hw:(Builtin.firstCells size n xv).run P w= .ok vn w)(hold:∀j v,vo[j]? =some v->w.cell? ⟨b,0+j,none⟩=some v)(ho:az ρ dG vo)(FN:az ρ new vn.toList)(h:grown size bytes (len+n) dG new s2= .ok x s1):jR P B ρ s s1 w x<|Builtin.append_ args 0 #[.slice (some ⟨b,0,none⟩) len c,xv]:=by
 obtain⟨o',hb,hO,hB⟩:=r.block ht hg hm;cases p with
 |cells k tr z=>
  obtain⟨c0,e0,rfl,jr,hk,row⟩:=hO;unfold grown at h;obtain⟨_,h2⟩:=cX h;obtain⟨q,s3,h3,h4⟩:=M.aR h2;obtain⟨rfl,rfl⟩:=bH h4;unfold newRow at h3;obtain⟨q1,q2⟩:=cX h3;obtain⟨q3,q4⟩:=and_true.1 q1;obtain⟨FO,rfl,rfl⟩:=vw q2;have wt:∀y∈dG++new,y.cj=true:=fun y hy=>List.all_eq_true.1 q4 y hy;have hlen:(dG++new).length<=top:=aL.1 q3;have hvl:=FN.length;have Za:=ho.length;have hmul:len*size+n*size<=c*size:=by rw[←Nat.add_mul];exact Nat.mul_le_mul_right _ hle
  have LK:len*size+vn.toList.length<=c0.size:=by omega
  have cQ:=NR (P:=P) (off:=len*size) (vs:=vn.toList) hb LK<|Jc FN fun y hy=>wt y<|List.mem_append_right _ hy;obtain⟨g1,g2⟩:=Np (cs:=(c0.toList.take (len*size)++vn.toList++c0.toList.drop (len*size+vn.toList.length)).toArray) hb;have qY:=J3 (P:=P) (w:=w) (base:=some ⟨b,0,none⟩) hu yT uU hx hi hn hle hw (by show(storeCells ((Addr.mk b 0 none).add<|len*size) vn.toList).run P w=_;rw[Addr.qE,Nat.zero_add];exact cQ);obtain⟨d1,d2⟩:=r.WN ht hg rfl rfl hm g1;have ji:ρ s2.nx=none:=hf s2.nx ak (Nat.lt_succ_self _) ak;refine⟨eQ ρ s2.nx (b,N),_,_,?_,qY,?_,?_,g1.below<|hB rfl⟩
  ·rw[←Rt];exact Ext.mK ji
  ·simp only[VR];exact⟨b,N,c,iQ _ _ _,rfl,hle,hle,by omega⟩
  ·show Rel B _ (s2.h.put s2.nx<|some<|.cells (dG++new).length (Tr.fill (dG++new) 0 .nil) []) _;rw[im];refine d1.name FO ji rfl g2 (fun _=>hB rfl) (fun k' sh=>by
    cases e:ρ (Rn.hn k' b sh) with
    |none=>rfl
    |some x=>obtain⟨_,_,_,_,_,_,_,q3,_⟩:=r.fz k' b sh (by rw[e];exact fun h=>by cases h);exact absurd hm<|q3 m _ N ht hg rfl) d2 ?_ (r.tk.of (oD ji) (fun j q hj hq yB=>by
    rw[Tr.dt _ _ _ _ FO hj] at hq;by_cases e:j=s2.nx
    ·rw[if_pos e] at hq;cases hq;cases yB
    ·rw[if_neg e,Tr.dt _ _ _ _ ht hj] at hq;by_cases e2:j=m
     ·rw[if_pos e2] at hq;cases hq
     ·rw[if_neg e2] at hq;exact hq) (by rw[g1.size];exact Nat.le_refl _) (fun b1 _ hn=>g1.block b1 fun e=>hn m _ N ht hg rfl (by rw[e];exact hm)) (fun b1 _ hn j q M hj hq hU e2=>by
    rw[Tr.dt _ _ _ _ FO hj] at hq;by_cases e:j=s2.nx
    ·subst e;rw[iQ] at e2;cases e2;exact hn m _ N ht hg rfl hm
    ·rw[if_neg e,Tr.dt _ _ _ _ ht hj] at hq;rw[gM ρ _ e] at e2;by_cases e3:j=m
     ·rw[if_pos e3] at hq;cases hq
     ·rw[if_neg e3] at hq;exact hn j q M hj hq hU e2) (fun j x sh _ _ e=>by rw[gM ρ _ (by have:=gg j x sh;omega)];exact e))
   refine⟨_,e0,rfl,?_,?_,fun i hi=>?_⟩
   ·exact(size_set LK).trans jr
   ·simp only[List.length_append];omega
   ·simp only[List.length_append] at hi;obtain⟨a,ha⟩:∃a,(dG++new)[i]? =some a:=⟨(dG++new)[i]'(by simp;exact hi),List.getElem?_eq_getElem _⟩;have mV:=zA (l:=dG++new) (i:=i) hlen (by simp;exact hi);obtain⟨v,hv,hr⟩:=(ho.append FN).get i a ha;refine⟨a,v,by rw[mV];exact ha,wt a<|List.mem_of_getElem? ha,?_,hr.mono<|oD ji⟩;simp only[List.getElem?_toArray];by_cases q:i<len*size
    ·rw[List.getElem?_append_left ak] at hv;have:=hold i v hv;simp only[World.cell?,hb,Nat.zero_add] at this;rw[List.append_assoc,List.getElem?_append_left wK,List.getElem?_take_of_lt q];simpa using this
    ·rw[List.getElem?_append_right ak] at hv;have hvi:i - vo.length<vn.toList.length:=(List.getElem?_eq_some_iff.1 hv).1;rw[List.append_assoc,List.getElem?_append_right wK];simp only[List.length_take,Array.length_toList];rw[Nat.min_eq_left ak,List.getElem?_append_left ak];rw[show i - len*size=i - vo.length from by omega];exact hv
 |_=>cases hp
theorem aaL{b:AV}(ha:VR ρ a va)(hb:VR ρ b vb)(fi:bE s)(r:Rel B ρ s.h w)(hf:dJ s.nx s1.nx ρ)(h:pL P ts a b s= .ok x s1):
 jR P B ρ s s1 w x (Builtin.append_ ts 0 #[va,vb]):=by
 unfold pL at h;obtain⟨sT,h1,h⟩:=bu h;cases e1:P.underlying sT with
 |none=>simp only[e1] at h;cases h
 |some d=>
  cases d<;>simp only[e1] at h<;>first|(cases h;done)|skip
  rename_i elem;cases a<;>simp only at h<;>first|(cases h;done)|skip
  rename_i base len cap _;obtain⟨i,h2,h⟩:=bu h;obtain⟨h3,h⟩:=cX h;obtain⟨hz,hx⟩:=and_true.1 h3;obtain⟨n,h4,h⟩:=bu h;obtain⟨new,s2,h5,h⟩:=M.aR h;obtain⟨h6,h⟩:=cX h;have yU:=eA.1 h6;have hi:eC P elem=some i.size:=by simp[eC,h2]
  obtain⟨k1,k2,vn,k3,k4⟩:=I9 (P:=P) hb fi r h5;have rd:Rel B ρ s.h {w with drawn:=w.drawn+1}:=r.Fg<|gX.drew w;obtain⟨_,_,vn',Mm,Mn⟩:=I9 (P:=P) hb fi rd h5;have hn:=T0 (P:=P) (w:=w) hb h4;have dH:bE s2:=(SH.firstCells _ _ _).cG fi h5;have r2:Rel B ρ s2.h w:=by rw[k1];exact r
  have AP:Rel B ρ s2.h {w with drawn:=w.drawn+1}:=by rw[k1];exact rd
  unfold rM at h;cases cap with
  |lost=>cases h
  |known c=>
   simp only at h;cases q:Nat.ble (len+n) c with
   |true=>
    simp only[q] at h;have hle:=aL.1 q;obtain⟨u,s3,h7,h8⟩:=M.aR h;obtain⟨rfl,rfl⟩:=bH h8;cases base with
    |none=>
     obtain⟨rfl,rfl⟩:=bH h7;obtain⟨rfl,hc,rfl⟩:=my ha;cases hc;have pt:n=0:=by omega
     subst pt;refine⟨ρ,w,_,by rw[k2];exact Ext.refl _ _ _,J3 (P:=P) (w:=w) (base:=none) e1 h1 rfl hx hi hn hle k3 rfl,?_,r2,cP.refl _ _⟩;simp[VR]
    |some p=>obtain⟨m,j⟩:=p;have wO:=ha;simp only[VR] at wO;obtain⟨bb,N,hm,rfl⟩:=wO;obtain⟨g1,w',g2,g3,g4⟩:=Nc (P:=P) dH r2 h7 hm k4;refine⟨ρ,w',_,by rw[g1,k2];exact Ext.refl _ _ _,J3 (P:=P) (w:=w) (base:=some ⟨bb,j,none⟩) e1 h1 rfl hx hi hn hle k3 (by show(storeCells ((Addr.mk bb j none).add<|len*i.size) vn.toList).run P w=_;rw[Addr.qE];exact g2),?_,g3,g4⟩;simp only[VR];exact⟨bb,N,hm,rfl⟩
   |false=>
    simp only[q] at h;have cF:c<len+n:=by
     rcases Nat.lt_or_ge c (len+n) with e|e
     ·exact e
     ·rw[aL.2 e] at q;cases q
    obtain⟨dG,s3,h7,h8⟩:=M.aR h;obtain⟨j1,j2,vo,j3,j4⟩:=I9 (P:=P) ha dH AP h7;have Za:=aao dH r2 ha (by intro e;cases e) h7;have:∃Xu:Option Addr,va= .slice Xu len c:=by
     cases base with
     |none=>obtain⟨rfl,hc,rfl⟩:=my ha;cases hc;exact⟨_,rfl⟩
     |some p=>obtain⟨m,j⟩:=p;simp only[VR] at ha;obtain⟨_,_,_,rfl⟩:=ha;exact⟨_,rfl⟩
    obtain⟨Xu,hva⟩:=this;refine jR.nx (s2:=s3) (NT (P:=P) hva e1 h1 rfl hx h2 hz hn cF (by rw[j1];exact r2) (by rw[j2,k2];exact hf) Za yU j3 Mm j4 Mn h8) (by rw[j2,k2])
  |ar lo sz=>
   obtain⟨h7,h⟩:=cX h;have:=eA.1 h7;subst this;cases q:Nat.ble (len+n) lo with
   |true=>
    simp only[q] at h;have hle:=aL.1 q;cases base with
    |none=>cases h
    |some p=>
     obtain⟨m,j⟩:=p;simp only at h;obtain⟨u,s3,h8,h9⟩:=M.aR h;obtain⟨rfl,rfl⟩:=bH h9;have wO:=ha;simp only[VR] at wO;obtain⟨bb,N,c,hm,rfl,gI,Mo,hN⟩:=wO;have LK:j+len*i.size+new.length<=N:=by have:(len+n)*i.size<=c*i.size:=Nat.mul_le_mul_right _ ak;rw[Nat.add_mul] at this;omega
     obtain⟨g1,w',g2,g3,g4⟩:=aaC (P:=P) dH r2 LK h8 hm k4;refine⟨ρ,w',_,by rw[g1,k2];exact Ext.refl _ _ _,J3 (P:=P) (w:=w) (base:=some ⟨bb,j,none⟩) e1 h1 rfl hx hi hn ak k3 (by show(storeCells ((Addr.mk bb j none).add<|len*i.size) vn.toList).run P w=_;rw[Addr.qE];exact g2),?_,g3,g4⟩;simp only[VR];exact⟨bb,N,c,hm,rfl,gI,by omega,hN⟩
   |false=>
    simp only[q] at h;cases base with
    |none=>cases h
    |some p=>
     obtain⟨m,j⟩:=p;cases j with
     |succ j=>cases h
     |zero=>
      simp only at h;obtain⟨dG,s3,h8,h⟩:=M.aR h;obtain⟨ob,s4,h9,h⟩:=M.aR h;obtain⟨gH,h⟩:=cX h;obtain⟨u,s5,uV,rr⟩:=M.aR h;have wO:=ha;simp only[VR] at wO;obtain⟨bb,N,c,hm,rfl,gI,Mo,hN⟩:=wO;obtain⟨j1,j2,j3,j4,vo,j5,j6,j7⟩:=zy (P:=P) dH r2 h8 hm;obtain⟨_,_,_,_,vo',Ru,Rv,_⟩:=zy (P:=P) dH AP h8 hm;obtain⟨i1,i2,i3,i4⟩:=fY h9;obtain⟨i5,i6,i7,i8,i9⟩:=jy uV;have hh:s4.h=s2.h:=i3.trans j1;have cJ:s4.nx=s.nx:=(i4.trans j2).trans k2;by_cases hq:len+n<=c
      ·refine jR.nx (s2:=s2) ?_ k2;refine S8 (P:=P) (s:=s2) (s2:=s5) (p:=ob) (vo:=vo) e1 h1 rfl hx hi hn hq r2 i6 (by rw[←j1];exact i2) gH hm ak (by rw[k2];exact hf) j3 yU (by rw[i8,hh]) (by rw[i9,cJ,k2]) k3 j7 j6 k4 rr
      ·have Rx:s4.h.get m≠some .jP:=by intro e;rw[i3,i2] at e;injection e with e;subst e;cases gH
       refine jR.nx (s2:=s5) (NT (P:=P) rfl e1 h1 rfl hx h2 hz hn ak (by rw[i8];exact Rel.drop (by rw[hh];exact r2) i6 Rx) (by rw[i9,cJ];exact hf) j3 yU (by simpa[Builtin.firstCells] using Ru) Mm (by simpa using Rv) Mn rr) (by rw[i9,cJ])
theorem SS{o k:Nat}{v:Value}{l:List AV}{SI:aO}(eN:B0 B SI)(ht:top<=n)(hb:VR ρ (.ab n o k) v)(fi:bE s)(r:Rel B ρ s.h w)(h:tK SI n o (k*size) s= .ok l s1):
 s1.h=s.h/\s1.nx=s.nx/\l.length=k*size/\(Builtin.lenOf v).run P w= .ok k w/\∃arr:Array Value,(Builtin.firstCells size k v).run P w= .ok arr w/\az ρ l arr.toList:=by
 rcases Nat.eq_zero_or_pos (k*size) with hk|hk
 ·rw[show tK SI n o (k*size)=M.pure [] from by rw[hk];rfl] at h;obtain⟨rfl,rfl⟩:=bH h;refine⟨rfl,rfl,hk.symm,?_⟩;simp only[VR] at hb;rcases hb with⟨_,rfl,a0,c,rfl,_⟩|⟨b,sh,c,e,rfl,_⟩
  ·refine⟨rfl, #[],?_,by simp[az]⟩;cases a0<;>simp[Builtin.firstCells,loadCells,loadCellsFrom]
  ·refine⟨rfl, #[],?_,by simp[az]⟩;simp[Builtin.firstCells,loadCells,loadCellsFrom,hk]
 rw[show tK SI n o (k*size)=(SI (.row n o<|k*size) []).bind fun x=>match x with
  | .agg l=>aF (Nat.beq l.length<|k*size) <| M.pure l
  |_=>fail from by obtain⟨m,hm⟩:∃m,k*size=m+1:=⟨k*size - 1,by omega⟩;rw[hm];rfl] at h
 obtain⟨x,s2,h1,h2⟩:=M.aR h;split at h2<;>first|(cases h2;done)|skip
 rename_i l';obtain⟨h3,h4⟩:=cX h2;obtain⟨rfl,rfl⟩:=bH h4;obtain⟨a1,a2,a3⟩:=eN _ _ _ _ _ _ _ _ fi r h1;have hlen:=eA.1 h3;refine⟨a1,a2,hlen,?_⟩;simp only[VR] at hb;rcases hb with⟨_,rfl,a0,c,rfl,hz⟩|⟨b,sh,c,e,rfl,_⟩
 ·have:l=[]:=List.eq_nil_of_length_eq_zero (by rw[hlen,Nat.zero_mul]);subst this;refine⟨rfl, #[],?_,by simp[az]⟩;cases a0<;>simp[Builtin.firstCells,loadCells,loadCellsFrom]
 ·obtain⟨l2,vs,e2,e3,e4,c',et,fr,e5,e6⟩:=a3 b sh<|e.high ht;injection e2 with e2
  subst e2;have Hw:=JJ (P:=P) (w:=w) e5 e6;rw[e3] at Hw;exact⟨rfl,vs.toArray,by simpa[Builtin.firstCells] using Hw,by simpa using e4⟩
theorem aa0{n0 o0 k0:Nat}{SI:aO}(eN:B0 B SI)(hl:∀t a,SH<|SI t a)(ha:VR ρ a va)(hb:VR ρ (.ab n0 o0 k0) vb)(fi:bE s)(r:Rel B ρ s.h w)(hf:dJ s.nx s1.nx ρ)(h:BI P SI ts a n0 o0 k0 s= .ok x s1):
 jR P B ρ s s1 w x (Builtin.append_ ts 0 #[va,vb]):=by
 unfold BI at h;obtain⟨dI,h⟩:=cX h;have dI:=aL.1 dI;obtain⟨sT,h1,h⟩:=bu h;cases e1:P.underlying sT with
 |none=>simp only[e1] at h;cases h
 |some d=>
  cases d<;>simp only[e1] at h<;>first|(cases h;done)|skip
  rename_i elem;obtain⟨m,len,cap,rfl⟩:∃m len cap,a= .slice (some (m,0)) len cap:=by
   cases a with
   |slice base len cap=>
    cases base with
    |none=>cases h
    |some p=>
     obtain⟨m,j⟩:=p;cases j with
     |succ j=>cases h
     |zero=>exact⟨m,len,cap,rfl⟩
   |_=>cases h
  obtain⟨i,h2,h⟩:=bu h;obtain⟨h3,h⟩:=cX h;obtain⟨hz,hx⟩:=and_true.1 h3;obtain⟨dm,h⟩:=cX h;obtain⟨new,s2,h5,h⟩:=M.aR h;have hi:eC P elem=some i.size:=by simp[eC,h2]
  obtain⟨k1,k2,yU,hn,vn,k3,k4⟩:=SS (P:=P) eN dI hb fi r h5;have rd:Rel B ρ s.h {w with drawn:=w.drawn+1}:=r.Fg<|gX.drew w;obtain⟨_,_,_,_,vn',Mm,Mn⟩:=SS (P:=P) eN dI hb fi rd h5;have dH:bE s2:=(SH.tK hl _ _ _).cG fi h5;have r2:Rel B ρ s2.h w:=by rw[k1];exact r
  have AP:Rel B ρ s2.h {w with drawn:=w.drawn+1}:=by rw[k1];exact rd
  have wO:∃bb N c,ρ m=some (bb,N)/\va= .slice (some ⟨bb,0,none⟩) len c/\len<=c/\0+c*i.size<=N:=by
   cases cap with
   |lost=>cases dm
   |known c=>obtain⟨q1,q2⟩:=and_true.1 dm;have q1:=eA.1 q1;have q2:=eA.1 q2;subst q1;subst q2;simp only[VR] at ha;obtain⟨bb,N,e,hv⟩:=ha;exact⟨bb,N,0,e,hv,Nat.le_refl _,by omega⟩
   |ar lo sz=>have:=eA.1 dm;subst this;simp only[VR] at ha;obtain⟨bb,N,c,hm,hv,_,Mo,hN⟩:=ha;exact⟨bb,N,c,hm,hv,Mo,hN⟩
  obtain⟨bb,N,c,hm,rfl,Mo,hN⟩:=wO;obtain⟨dG,s3,h8,h⟩:=M.aR h;obtain⟨ob,s4,h9,h⟩:=M.aR h;obtain⟨gH,h⟩:=cX h;obtain⟨u,s5,uV,rr⟩:=M.aR h;obtain⟨j1,j2,j3,j4,vo,j5,j6,j7⟩:=zy (P:=P) dH r2 h8 hm;obtain⟨_,_,_,_,vo',Ru,Rv,_⟩:=zy (P:=P) dH AP h8 hm;obtain⟨i1,i2,i3,i4⟩:=fY h9;obtain⟨i5,i6,i7,i8,i9⟩:=jy uV;have hh:s4.h=s2.h:=i3.trans j1;have cJ:s4.nx=s.nx:=(i4.trans j2).trans k2;by_cases hq:len+k0<=c
  ·refine jR.nx (s2:=s2) ?_ k2;refine S8 (P:=P) (s:=s2) (s2:=s5) (p:=ob) (vo:=vo) e1 h1 rfl hx hi hn hq r2 i6 (by rw[←j1];exact i2) gH hm ak (by rw[k2];exact hf) j3 yU (by rw[i8,hh]) (by rw[i9,cJ,k2]) k3 j7 j6 k4 rr
  ·have Rx:s4.h.get m≠some .jP:=by intro e;rw[i3,i2] at e;injection e with e;subst e;cases gH
   refine jR.nx (s2:=s5) (NT (P:=P) rfl e1 h1 rfl hx h2 hz hn ak (by rw[i8];exact Rel.drop (by rw[hh];exact r2) i6 Rx) (by rw[i9,cJ];exact hf) j3 yU (by simpa[Builtin.firstCells] using Ru) Mm (by simpa using Rv) Mn rr) (by rw[i9,cJ])
end
end Go.Rn
namespace Go.Rn
open Go.RowKit
variable {ts:Array TypeId} {vs:Array Value} {va:Value} {ty:TypeId} {consts:Array Bool} {b:Builtin} {a:AV}
section
variable {P:Program} {B:aJ} {ρ:aw} {w:World} {s s1:AS} {x:AV} {SI:aO} {t:Tr AV} {ev:Operand->Value} {o:Oper}
theorem abt{b:AV}{vb:Value}(ha:VR ρ a va)(hb:VR ρ b vb)(fi:bE s)(r:Rel B ρ s.h w)(h:zR P ts a b s= .ok x s1):
 jR P B ρ s s1 w x (Builtin.copy_ ts 0 #[va,vb]):=by
 unfold zR at h;obtain⟨sT,h1,h⟩:=bu h;cases e1:P.underlying sT with
 |none=>simp only[e1] at h;cases h
 |some d=>
  cases d<;>simp only[e1] at h<;>first|(cases h;done)|skip
  rename_i elem;cases a<;>simp only at h<;>first|(cases h;done)|skip
  rename_i base len cap _;obtain⟨k,h2,h⟩:=bu h;obtain⟨n,h3,h⟩:=bu h;obtain⟨h4,h⟩:=cX h;obtain⟨cells,s2,h5,h⟩:=M.aR h;obtain⟨u,s3,h6,h7⟩:=M.aR h;obtain⟨rfl,rfl⟩:=bH h7;have hn:=T0 (P:=P) (w:=w) hb h3;obtain⟨k1,k2,vn,k3,k4⟩:=I9 (P:=P) hb fi r h5;have dH:bE s2:=(SH.firstCells _ _ _).cG fi h5;have r2:Rel B ρ s2.h w:=by rw[k1];exact r
  cases base with
  |none=>obtain⟨_,rfl⟩:=bH h6;obtain⟨rfl,hc,rfl⟩:=my ha;refine⟨ρ,w,.int .i64 (Nat.min n 0:Nat),by rw[k2];exact Ext.refl _ _ _,?_,by simp only[VR],r2,cP.refl _ _⟩;simp only[Builtin.copy_,h1,show(#[Value.slice none 0 0,vb]:Array Value)[0]? =some (.slice none 0 0) from rfl,show(#[Value.slice none 0 0,vb]:Array Value)[1]? =some vb from rfl,Sem.run_bind,de e1,Result.andThen_ok,hn,gS h2,k3,Sem.run_pure,goInt]
  |some p=>
   obtain⟨m,i⟩:=p;have hq:∃bb N c,ρ m=some (bb,N)/\va= .slice (some ⟨bb,i,none⟩) len c:=by
    cases cap with
    |known c=>simp only[VR] at ha;obtain⟨bb,N,e,rfl⟩:=ha;exact⟨bb,N,c,e,rfl⟩
    |ar lo e0=>simp only[VR] at ha;obtain⟨bb,N,c,e,rfl,_⟩:=ha;exact⟨bb,N,c,e,rfl⟩
    |lost=>cases h4
   obtain⟨bb,N,c,hm,rfl⟩:=hq;obtain⟨g1,w',g2,g3,g4⟩:=Nc (P:=P) dH r2 h6 hm k4;refine⟨ρ,w',.int .i64 (Nat.min n len:Nat),by rw[g1,k2];exact Ext.refl _ _ _,?_,by simp only[VR],g3,g4⟩;simp only[Builtin.copy_,h1,show(#[Value.slice (some ⟨bb,i,none⟩) len c,vb]:Array Value)[0]? =some (.slice (some ⟨bb,i,none⟩) len c) from rfl,show(#[Value.slice (some ⟨bb,i,none⟩) len c,vb]:Array Value)[1]? =some vb from rfl,Sem.run_bind,de e1,Result.andThen_ok,hn,gS h2,k3,Sem.run_pure,goInt,g2]
theorem dW.length:∀{x:List<|AV×AV} {l:List MapEntry},dW ρ x l->x.length=l.length
 |[],l,k=>by have k':l=[]:=k;subst k';rfl
 |_::_,_,k=>by obtain⟨e,es,rfl,_,_,d⟩:=k;simp[dW.length d]
theorem adn(ha:VR ρ a va)(fi:bE s)(r:Rel B ρ s.h w)(h:As P ts a s= .ok x s1):
    jR P B ρ s s1 w x (Builtin.len_ ts 0 #[va]):=by
  unfold As at h
  have h9:=M.aR h
  clear h
  obtain⟨sT,s0,h0,h⟩:=h9
  obtain⟨h1,Mp⟩:=gT h0
  clear h0
  subst Mp
  have Zb:(#[va]:Array Value)[0]? =some va:=rfl
  cases e1:P.underlying sT with
  |none=>simp only[e1] at h;cases h
  | some d=>
    have fin:∀n:Nat,(Builtin.len_ ts 0 #[va]).run P w= .ok (goInt n) w->x= .int .i64 n->s1.h=s0.h->s1.nx=s0.nx->jR P B ρ s0 s1 w x (Builtin.len_ ts 0 #[va]):=by
      intro n hr hx hh cJ
      subst hx
      exact⟨ρ,w,_,by rw[cJ];exact Ext.refl _ _ _,hr,by simp only[VR,goInt],by rw[hh];exact r,cP.refl _ _⟩
    cases d<;>simp only[e1] at h<;>first|(cases h;done)|skip
    case slice e=>
      cases a<;>first|(cases h;done)|skip
      case slice base len cap=>
        obtain⟨rfl,rfl⟩:=bH h
        have:∃p c,va= .slice p len c:=by
          cases base with
          |none=>obtain⟨rfl,_,rfl⟩:=my ha;exact⟨_,_,rfl⟩
          |some p=>obtain⟨m,j⟩:=p;obtain⟨_,_,_,_,_,rfl⟩:=vq ha;exact⟨_,_,rfl⟩
        obtain⟨p,c,rfl⟩:=this
        refine fin _ ?_ rfl rfl rfl
        simp only[Builtin.len_,h1,Zb,Sem.run_bind,de e1,Result.andThen_ok,Sem.run_pure]
      case ab n o len=>
        obtain⟨rfl,rfl⟩:=bH h
        simp only[VR] at ha
        rcases ha with⟨_,rfl,_,_,rfl,_⟩|⟨b,sh,c,_,rfl,_⟩<;>
        (refine fin _ ?_ rfl rfl rfl
         simp only[Builtin.len_,h1,Zb,Sem.run_bind,de e1,Result.andThen_ok,Sem.run_pure])
theorem OF{f:AV->AV->Option AV}{g:Value->Value->Sem Value}(hf:∀a b c va vb,f a b=some c->VR ρ a va->VR ρ b vb->∃vc,(g va vb).run P w= .ok vc w/\VR ρ c vc):
 ∀{l:List AV} {vs:List Value} {a c:AV} {va:Value},Ei f l a=some c->az ρ l vs->VR ρ a va->∃vc,(vs.foldlM g va).run P w= .ok vc w/\VR ρ c vc
 |[],vs,a,c,va,h,hl,ha=>by
  simp only[az] at hl;subst hl;simp only[Ei] at h;injection h with h;subst h
  exact⟨va,rfl,ha⟩
 |y::l,vs,a,c,va,h,hl,ha=>by
  simp only[az] at hl;obtain⟨v,ys,rfl,hv,hl⟩:=hl;simp only[Ei] at h;cases e:f a y with
  |none=>rw[e] at h;cases h
  |some z=>simp only[e] at h;obtain⟨vz,g1,g2⟩:=hf a y z va v e ha hv;obtain⟨vc,g3,g4⟩:=OF hf h hl g2;exact⟨vc,by simp only[List.foldlM_cons,Sem.run_bind,g1,Result.andThen_ok,g3],g4⟩
theorem ado(a b c:AV)(va vb:Value)(h:min2 a b=some c)(ha:VR ρ a va)(hb:VR ρ b vb):∃vc,(Builtin.min2 va vb).run P w= .ok vc w/\VR ρ c vc:=by
 unfold min2 at h;split at h
 ·rename_i k x k2 y;injection h with h;subst h
  simp only[VR] at ha hb;subst ha;subst hb;refine⟨_,rfl,?_⟩;simp only[VR];by_cases q:y<x<;>simp[q]
 ·cases h
theorem adp(a b c:AV)(va vb:Value)(h:max2 a b=some c)(ha:VR ρ a va)(hb:VR ρ b vb):∃vc,(Builtin.max2 va vb).run P w= .ok vc w/\VR ρ c vc:=by
 unfold max2 at h;split at h
 ·rename_i k x k2 y;injection h with h;subst h
  simp only[VR] at ha hb;subst ha;subst hb;refine⟨_,rfl,?_⟩;simp only[VR];by_cases q:y>x<;>simp[q]
 ·cases h
theorem aaM{l:List AV}(hl:az ρ l vs.toList)(fi:bE s)(r:Rel B ρ s.h w)(hf:dJ s.nx s1.nx ρ)(h:zE P b ts l s= .ok x s1):gh P B ρ s s1 w x<|Go.builtin b ts ty consts vs:=by
 obtain⟨vs⟩:=vs;unfold zE at h;split at h
 ·rename_i y;simp only[az] at hl;obtain⟨v,ys,rfl,hv,rfl⟩:=hl;exact(adn hv fi r h).op
 ·rename_i y z;simp only[az] at hl;obtain⟨v,ys,rfl,hv,v2,FP,rfl,sM,rfl⟩:=hl;exact(aaL hv sM fi r hf h).op
 ·rename_i y z;simp only[az] at hl;obtain⟨v,ys,rfl,hv,v2,FP,rfl,sM,rfl⟩:=hl;exact(abt hv sM fi r h).op
 ·rename_i y z;simp only[az] at hl;obtain⟨v,ys,rfl,hv,hl⟩:=hl;obtain⟨h1,rfl⟩:=gT h;obtain⟨vc,g1,g2⟩:=OF (P:=P) (w:=w) ado h1 hl hv;exact jR.op (c:=Builtin.min_ ts ty ⟨v::ys⟩) ⟨ρ,w,vc,Ext.refl _ _ _,g1,g2,r,cP.refl _ _⟩
 ·rename_i y z;simp only[az] at hl;obtain⟨v,ys,rfl,hv,hl⟩:=hl;obtain⟨h1,rfl⟩:=gT h;obtain⟨vc,g1,g2⟩:=OF (P:=P) (w:=w) adp h1 hl hv;exact jR.op (c:=Builtin.max_ ts ty ⟨v::ys⟩) ⟨ρ,w,vc,Ext.refl _ _ _,g1,g2,r,cP.refl _ _⟩
 ·cases h
theorem abu{y:AV}{n q k:Nat}(eN:B0 B SI)(nC:∀t a,SH<|SI t a)(hl:az ρ [y,.ab n q k] vs.toList)(fi:bE s)(r:Rel B ρ s.h w)(hf:dJ s.nx s1.nx ρ)(h:BI P SI ts y n q k s= .ok x s1):gh P B ρ s s1 w x<|Go.builtin .append ts ty consts vs:=by obtain⟨vs⟩:=vs;simp only[az] at hl;obtain⟨v,ys,rfl,hv,hl⟩:=hl;obtain⟨v2,FP,rfl,sM,rfl⟩:=hl;exact(aa0 eN nC hv sM fi r hf h).op
theorem aaN{args:Array Operand}(eN:B0 B SI)(nC:∀t a,SH<|SI t a)(he:∀x v,aK t x=some v->VR ρ v (ev x))(fi:bE s)(r:Rel B ρ s.h w)(hf:dJ s.nx s1.nx ρ)(h:oz P b ts args.toList SI t s= .ok x s1)(ho:o.op= .call ⟨.builtin b,args,ts⟩):gh P B ρ s s1 w x<|execOp ev o:=by
 unfold oz at h;obtain⟨vs,h1,h2⟩:=bu h;have hl:=GM he h1;have key:(∃y n q k,b= .append/\vs=[y,.ab n q k]/\BI P SI ts y n q k s= .ok x s1)\/zE P b ts vs s= .ok x s1:=by
  split at h2
  ·exact .inl ⟨_,_,_,_,rfl,rfl,h2⟩
  ·exact .inr h2
 have all:∀consts:Array Bool,gh P B ρ s s1 w x<|Go.builtin b ts o.type consts<|args.map ev:=fun consts=>by
  rcases key with⟨y,n,q,k,rfl,rfl,h2⟩|h2
  ·exact abu eN nC (by simpa using hl) fi r hf h2
  ·exact aaM (vs:=args.map ev) (by simpa using hl) fi r hf h2
 have:=all (args.map fun| .const _=>true|_=>false);obtain⟨σ,w',nv,a1,a2,a3⟩:=this;refine⟨σ,w',nv,a1,?_,a3⟩;simp only[execOp,ho,resolve,Sem.run_bind,Sem.run_pure,Result.andThen_ok,invoke];exact a2
end
end Go.Rn
namespace Go.Rn
open Go.RowKit
variable {key a:AV} {v:Value} {r:Option<|Nat×AV} {kd:TypeDesc} {k:TypeId} {l:List MapEntry} {es:List<|AV×AV}
section
variable {P:Program} {B:aJ} {ρ:aw} {w:World} {s s1:AS} {x:AV} {SI:aO} {t:Tr AV} {ev:Operand->Value} {o:Oper}
theorem Ni{em:Bool}{d:Nat}{CX:TypeId->AV->Bool}(hc:∀ty a v,CX ty a=true->VR ρ a v->(Instr.checkKey em d ty v).run P w= .ok () w){cs:List AV}{ds:Array Value}(hx:az ρ cs ds.toList):∀{fs:List Field},Gp P CX cs fs=true->
 (forIn fs PUnit.unit fun f _=>do
  if f.name≠ "_" then do
   Instr.checkKey em d f.type (←part f.type ds f.offset)
   pure (ForInStep.yield PUnit.unit)
  else pure (ForInStep.yield PUnit.unit):Sem PUnit).run P w= .ok PUnit.unit w
 |[],_=>rfl
 |f::fs,h=>by
  simp only[Gp] at h;rw[List.forIn_cons];cases en:(f.name == "_") with
  |true=>
   simp only[en] at h;have:¬(f.name≠ "_"):=by simpa using en
   rw[if_neg this];simp only[Sem.run_bind,Sem.run_pure,Result.andThen_ok];exact Ni hc hx h
  |false=>
   simp only[en] at h;have cz:f.name≠ "_" :=by intro e;rw[e] at en;simp at en
   rw[if_pos cz];cases e1:vV P f.type cs f.offset with
   |none=>simp only[e1] at h;cases h
   |some a=>
    simp only[e1] at h;obtain⟨v,g1,g2⟩:=Gq (w:=w) hx e1;cases e2:CX f.type a with
    |false=>simp only[e2] at h;cases h
    |true=>simp only[e2] at h;simp only[Sem.run_bind,Sem.run_pure,Result.andThen_ok,g1,hc _ _ _ e2 g2];exact Ni hc hx h
theorem JA{em:Bool}:∀{d:Nat} {ty:TypeId} {a:AV} {v:Value},oT P d ty a=true->VR ρ a v->(Instr.checkKey em d ty v).run P w= .ok () w
 |0,_,_,_,h,_=>by simp only[oT] at h;cases h
 |d+1,ty,a,v,h,ha=>by
  simp only[oT] at h;rw[Instr.checkKey];split at h<;>first|(cases h;done)|skip
  ·rename_i e;simp[de e]
  ·rename_i e;simp[de e]
  ·rename_i e;simp[de e]
  ·rename_i fs cs e;simp only[VR] at ha;obtain⟨ds,rfl,hl⟩:=ha;simp only[Sem.run_bind,de e,Result.andThen_ok];have:=Ni (P:=P) (w:=w) (em:=em) (d:=d) (fun ty a v h1 h2=>JA h1 h2) hl h;rw[←Array.forIn_toList];simp only[this,Result.andThen_ok,Sem.run_pure]
theorem Gl{b:AV}{c:Bool}{u:Value}(hk:P.underlying k=some kd)(hp:plainKey P k a=true)(h:sameKey a b=some c)(ha:VR ρ a v)(hb:VR ρ b u):Instr.sameNow kd v u=some c:=by
 unfold plainKey at hp;rw[hk] at hp;unfold sameKey at h;split at h<;>first|(cases h;done)|skip
 ·rename_i k1 x1 k2 x2;simp only[VR] at ha hb;subst ha;subst hb;cases yV:decide (k1=k2) with
  |false=>rw[yV] at h;cases h
  |true=>
   rw[yV] at h;injection h with h;subst h
   have:=of_decide_eq_true yV;cases kd<;>first|(cases hp;done)|simp[Instr.sameNow,this]
 ·injection h with h;subst h
  simp only[VR] at ha hb;subst ha;subst hb;cases kd<;>first|(cases hp;done)|simp[Instr.sameNow]
 ·injection h with h;subst h
  simp only[VR] at ha hb;subst ha;subst hb;cases kd<;>first|(cases hp;done)|simp[Instr.sameNow]
def EM(ρ:aw)(es:List<|AV×AV)(l:List MapEntry)(i:Nat):Option (Nat×AV)->Option (Nat×Value)->Prop
 |none,r=>r=none
 |some (j,x),r=>∃y q e,r=some (j,y)/\VR ρ x y/\i<=j/\es[j - i]? =some q/\l[j - i]? =some e/\VR ρ q.1 e.key/\q.2=x/\e.val=y
theorem EM.next{i:Nat}{p:AV×AV}{e:MapEntry}{r':Option<|Nat×Value}(h:EM ρ es l (i+1) r r'):EM ρ (p::es) (e::l) i r r':=by
 cases r with
 |none=>exact h
 |some q=>
  obtain⟨j,x⟩:=q;obtain⟨y,q,e2,h1,h2,h3,h4,h5,h6⟩:=h;refine⟨y,q,e2,h1,h2,by omega,?_,?_,h6⟩
  ·rw[show j - i=(j - (i+1))+1 from by omega];simpa using h4
  ·rw[show j - i=(j - (i+1))+1 from by omega];simpa using h5
theorem SO{k:TypeId}{kd:TypeDesc}{key:AV}{v:Value}(hk:P.underlying k=some kd)(hp:plainKey P k key=true)(hv:VR ρ key v):∀{es:List<|AV×AV} {l:List MapEntry} {i:Nat} {r:Option<|Nat×AV},
 dW ρ es l->kZ key es i=some r->∃r',Instr.findNow kd v l i=some r'/\EM ρ es l i r r'
 |[],l,i,r,he,h=>by
  have Iv:l=[]:=he;subst Iv;simp only[kZ] at h;injection h with h;subst h
  exact⟨none,rfl,rfl⟩
 |(a,b)::es,l,i,r,he,h=>by
  obtain⟨e,l',rfl,h1,h2,h3⟩:=he;simp only[kZ] at h;cases q:sameKey key a with
  |none=>rw[q] at h;cases h
  |some c=>
   have:=Gl hk hp q hv h1;cases c with
   |true=>
    simp only[q] at h;injection h with h;subst h
    exact⟨some (i,e.val),by simp only[Instr.findNow,this],e.val,(a,b),e,rfl,h2,Nat.le_refl _,by simp,by simp,h1,rfl,rfl⟩
   |false=>simp only[q] at h;obtain⟨r',g1,g2⟩:=SO hk hp hv h3 h;exact⟨r',by simp only[Instr.findNow,this];exact g1,g2.next⟩
theorem SU{k:TypeId}{key:AV}{v:Value}(hv:VR ρ key v):∀{es:List<|AV×AV} {l:List MapEntry} {i:Nat} {r:Option<|Nat×AV},
 dW ρ es l->GK P k key es i=some r->∃r',(Instr.findAsking k v l i).run P w= .ok r' w/\EM ρ es l i r r'
 |[],l,i,r,he,h=>by
  have Iv:l=[]:=he;subst Iv;simp only[GK] at h;injection h with h;subst h
  exact⟨none,rfl,rfl⟩
 |(a,b)::es,l,i,r,he,h=>by
  obtain⟨e,l',rfl,h1,h2,h3⟩:=he;simp only[GK] at h;cases q:qo P Op.maxDepth k key a with
  |none=>rw[q] at h;cases h
  |some c=>
   have hq:(Op.equal k v e.key).run P w= .ok c w:=J2 q hv h1;cases c with
   |true=>
    simp only[q] at h;injection h with h;subst h
    exact⟨some (i,e.val),by simp[Instr.findAsking,hq],e.val,(a,b),e,rfl,h2,Nat.le_refl _,by simp,by simp,h1,rfl,rfl⟩
   |false=>simp only[q] at h;obtain⟨r',g1,g2⟩:=SU hv h3 h;exact⟨r',by simp[Instr.findAsking,hq,g1],g2.next⟩
theorem agr{k:IntKind}{n:Int}(ha:VR ρ a<|.int k n):a= .int k n:=by
 cases a<;>(try simp only[VR] at ha)<;>first|(cases ha;rfl)|(cases ha;done)|skip
 ·rename_i q;cases q<;>simp only[VR] at ha<;>first|(cases ha;done)|(obtain⟨_,_,_,e⟩:=ha;cases e)
 ·rename_i q l c;cases q with
  |none=>obtain⟨_,_,e⟩:=my ha;cases e
  |some q=>obtain⟨n,i⟩:=q;obtain⟨_,_,_,_,_,e⟩:=vq ha;cases e
 ·rcases ha with⟨_,_,_,_,e,_⟩|⟨_,_,_,_,e,_⟩<;>cases e
 ·obtain⟨_,_,_,e⟩:=ha;cases e
 ·rename_i q;cases q<;>simp only[VR] at ha<;>first|(cases ha;done)|(obtain⟨_,_,_,e⟩:=ha;cases e)
 ·obtain⟨_,_,_,e,_⟩:=ha;cases e
 ·obtain⟨_,_,_,e⟩:=ha;cases e
 ·obtain⟨_,e,_⟩:=ha;cases e
 ·obtain⟨_,e,_⟩:=ha;cases e
 ·obtain⟨_,e,_⟩:=ha;cases e
theorem ags{q:ByteArray}(hz:uP a=true)(ha:VR ρ a<|.string q):a= .str q:=by
 cases a<;>(try cases hz;done)<;>(try simp only[VR] at ha)<;>first|(cases ha;rfl)|(cases ha;done)|skip
 ·rename_i q;cases q<;>simp only[VR] at ha<;>first|(cases ha;done)|(obtain⟨_,_,_,e⟩:=ha;cases e)
 ·rename_i q l c;cases q with
  |none=>obtain⟨_,_,e⟩:=my ha;cases e
  |some q=>obtain⟨n,i⟩:=q;obtain⟨_,_,_,_,_,e⟩:=vq ha;cases e
 ·rcases ha with⟨_,_,_,_,e,_⟩|⟨_,_,_,_,e,_⟩<;>cases e
 ·obtain⟨_,_,_,e⟩:=ha;cases e
 ·rename_i q;cases q<;>simp only[VR] at ha<;>first|(cases ha;done)|(obtain⟨_,_,_,e⟩:=ha;cases e)
 ·obtain⟨_,_,_,e,_⟩:=ha;cases e
 ·obtain⟨_,_,_,e⟩:=ha;cases e
 ·obtain⟨_,e,_⟩:=ha;cases e
 ·obtain⟨_,e,_⟩:=ha;cases e
 ·obtain⟨_,e,_⟩:=ha;cases e
theorem VI{b:Bool}(ha:VR ρ a<|.bool b):a= .bool b:=by
 cases a<;>(try simp only[VR] at ha)<;>first|(cases ha;rfl)|(cases ha;done)|skip
 ·rename_i q;cases q<;>simp only[VR] at ha<;>first|(cases ha;done)|(obtain⟨_,_,_,e⟩:=ha;cases e)
 ·rename_i q l c;cases q with
  |none=>obtain⟨_,_,e⟩:=my ha;cases e
  |some q=>obtain⟨n,i⟩:=q;obtain⟨_,_,_,_,_,e⟩:=vq ha;cases e
 ·rcases ha with⟨_,_,_,_,e,_⟩|⟨_,_,_,_,e,_⟩<;>cases e
 ·obtain⟨_,_,_,e⟩:=ha;cases e
 ·rename_i q;cases q<;>simp only[VR] at ha<;>first|(cases ha;done)|(obtain⟨_,_,_,e⟩:=ha;cases e)
 ·obtain⟨_,_,_,e,_⟩:=ha;cases e
 ·obtain⟨_,_,_,e⟩:=ha;cases e
 ·obtain⟨_,e,_⟩:=ha;cases e
 ·obtain⟨_,e,_⟩:=ha;cases e
 ·obtain⟨_,e,_⟩:=ha;cases e
theorem adq(hk:P.underlying k=some kd)(hz:uP key=true)(hp:plainKey P k key=false)(hv:VR ρ key v)(u:Value):Instr.sameNow kd v u=none:=by
 cases e:Instr.sameNow kd v u with
 |none=>rfl
 |some c=>
  exfalso;unfold Instr.sameNow at e;unfold plainKey at hp;rw[hk] at hp;split at e<;>first|(cases e;done)|skip
  ·rw[agr hv] at hp;cases hp
  ·rw[ags hz hv] at hp;cases hp
  ·rw[VI hv] at hp;cases hp
theorem WO{o:Option<|Option<|Nat×AV}(h:(match uP key with|false=>none|true=>o)=some r):uP key=true:=by
 cases hz:uP key with
 |false=>rw[hz] at h;cases h
 |true=>rfl
theorem S9(hk:P.underlying k=some kd)(hv:VR ρ key v)(he:dW ρ es l)(h:findKey P k key es=some r):
 ∃r',(Instr.findKey k v l).run P w= .ok r' w/\EM ρ es l 0 r r':=by
 unfold findKey at h;cases hz:uP key with
 |false=>rw[hz] at h;cases h
 |true=>
 simp only[hz] at h;cases hp:plainKey P k key with
 |true=>simp only[hp] at h;obtain⟨r',g1,g2⟩:=SO hk hp hv he h;exact⟨r',MapKept.run_findKey hk g1,g2⟩
 |false=>
  simp only[hp] at h;obtain⟨r',g1,g2⟩:=SU (P:=P) (w:=w) hv he h;refine⟨r',?_,g2⟩;cases l with
  |nil=>
   have C1:Result.ok none w=Result.ok r' w:=g1;injection C1 with C1;subst C1
   exact MapKept.run_findKey hk rfl
  |cons e l=>
   have:Instr.findNow kd v (e::l) 0=none:=by simp only[Instr.findNow,adq hk hz hp hv e.key]
   simp only[Instr.findKey,Sem.run_bind,de hk,Result.andThen_ok,this];exact g1
theorem Nf:∀{es:List<|AV×AV} {i:Nat},kZ key es i=some none->∀p∈es,sameKey key p.1=some false
 |[],_,_,p,hp=>by cases hp
 |(a,b)::es,i,h,p,hp=>by
  simp only[kZ] at h;cases q:sameKey key a with
  |none=>rw[q] at h;cases h
  |some c=>
   cases c with
   |true=>simp only[q] at h;cases h
   |false=>
    simp only[q] at h;rcases List.mem_cons.1 hp with rfl|hp
    ·exact q
    ·exact Nf h p hp
theorem SJ{key:AV}:∀{es:List<|AV×AV} {i j:Nat} {x:AV},kZ key es i=some (some (j,x))->i<=j/\∃q,es[j - i]? =some q/\q.2=x/\sameKey key q.1=some true
 |[],_,_,_,h=>by simp[kZ] at h
 |(a,b)::es,i,j,x,h=>by
  simp only[kZ] at h;cases q:sameKey key a with
  |none=>rw[q] at h;cases h
  |some c=>
   cases c with
   |true=>
    simp only[q] at h;injection h with h;injection h with h;injection h with h1 h2;subst h1;subst h2
    exact⟨Nat.le_refl _,(a,b),by simp,rfl,q⟩
   |false=>simp only[q] at h;obtain⟨h1,p,h2,h3⟩:=SJ h;refine⟨by omega,p,?_,h3⟩;rw[show j - i=(j - (i+1))+1 from by omega];simpa using h2
end
end Go.Rn
namespace Go.Rn
open Go.RowKit
variable {v u:Value} {a b key:AV} {l l':List MapEntry} {es:List<|AV×AV} {ty:TypeId} {kd:TypeDesc}
theorem Nl(h:sameKey a b=some true)(c:AV):sameKey a c=sameKey b c:=by
 unfold sameKey at h;split at h<;>first|(cases h;done)|skip
 ·rename_i k x k' y;cases hk:decide (k=k') with
  |false=>rw[hk] at h;cases h
  |true=>
   rw[hk] at h;injection h with h
   have e1:=of_decide_eq_true hk;have e2:x=y:=by simpa using h
   rw[e1,e2]
 ·rename_i x y;injection h with h
  rw[bytes_beq] at h;have e:x.toList=y.toList:=by simpa using h
  cases c<;>first|rfl|simp only[sameKey,bytes_beq,e]
 ·rename_i x y;injection h with h
  have e:x=y:=by simpa using h
  rw[e]
theorem Nm(a b:AV):sameKey a b=sameKey b a:=by
 cases a<;>cases b<;>first|rfl|skip
 ·rename_i x y;cases x<;>cases y<;>rfl
 ·rename_i k x k' y;by_cases e:k=k'
  ·subst e;show(match decide (k=k) with|true=>some (x == y)|false=>none)=(match decide (k=k) with|true=>some (y == x)|false=>none);rw[decide_eq_true (rfl:k=k)];show some (x == y)=some (y == x);rw[BEq.comm]
  ·show(match decide (k=k') with|true=>some (x == y)|false=>none)=(match decide (k'=k) with|true=>some (y == x)|false=>none);rw[decide_eq_false e,decide_eq_false<|Ne.symm e]
 ·rename_i x y;show some (x == y)=some (y == x);rw[bytes_beq,bytes_beq,BEq.comm]
theorem lE.at{es:List<|AV×AV}(h:lE es){i j:Nat}{p q:AV×AV}(hi:es[i]? =some p)(hj:es[j]? =some q)(cz:i≠j):sameKey p.1 q.1=some false:=by
 unfold lE at h;rw[List.pairwise_iff_getElem] at h;obtain⟨li,ei⟩:=List.getElem?_eq_some_iff.1 hi;obtain⟨lj,ej⟩:=List.getElem?_eq_some_iff.1 hj;rcases Nat.lt_or_ge i j with q'|q'
 ·have:=(h i j li lj q').1;rw[ei,ej] at this;exact this
 ·have:=(h j i lj li ak).2;rw[ei,ej] at this;exact this
theorem NB{ρ:aw}(h:sameKey a b=some true)(ha:VR ρ a v)(hb:VR ρ b u)(m:Nat):Instr.sameBits m v u=true:=by
 unfold sameKey at h;split at h<;>first|(cases h;done)|skip
 ·rename_i k x k' y;cases hk:decide (k=k') with
  |false=>rw[hk] at h;cases h
  |true=>
   rw[hk] at h;injection h with h
   simp only[VR] at ha hb;subst ha;subst hb;have e1:=of_decide_eq_true hk;subst e1;cases m<;>simpa[Instr.sameBits] using h
 ·injection h with h
  simp only[VR] at ha hb;subst ha;subst hb;cases m<;>simpa[Instr.sameBits] using h
 ·injection h with h
  simp only[VR] at ha hb;subst ha;subst hb;cases m<;>simpa[Instr.sameBits] using h
theorem Ta{ρ:aw}(m:Nat):∀{xs ys:List AV} {vs us:List Value},D5 xs ys=true->az ρ xs vs->az ρ ys us->vs.length=us.length/\((vs.zip us).all fun(x,y)=>Instr.sameBits m x y)=true
 |[],[],vs,us,_,h1,h2=>by simp only[az] at h1 h2;subst h1;subst h2;simp
 |[],_::_,_,_,h,_,_=>by simp[D5] at h
 |_::_,[],_,_,h,_,_=>by simp[D5] at h
 |x::xs,y::ys,vs,us,h,h1,h2=>by
  simp only[az] at h1 h2;obtain⟨v,vs,rfl,a1,b1⟩:=h1;obtain⟨u,us,rfl,a2,b2⟩:=h2;simp only[D5] at h;cases e:sameKey x y with
  |none=>rw[e] at h;cases h
  |some c=>
   cases c with
   |false=>rw[e] at h;cases h
   |true=>rw[e] at h;obtain⟨p,q⟩:=Ta m h b1 b2;exact⟨by simp[p],by simp only[List.zip_cons_cons,List.all_cons,NB e a1 a2 m,Bool.true_and];exact q⟩
theorem aaO{ρ:aw}(h:sameBits a b=true)(ha:VR ρ a v)(hb:VR ρ b u)(m:Nat):Instr.sameBits (m+1) v u=true:=by
 unfold sameBits at h;split at h
 ·rename_i xs ys;simp only[VR] at ha hb;obtain⟨vs,rfl,h1⟩:=ha;obtain⟨us,rfl,h2⟩:=hb;obtain⟨p,q⟩:=Ta m h h1 h2;simp only[Instr.sameBits,Bool.and_eq_true,beq_iff_eq];exact⟨by simpa using p,q⟩
 ·split at h
  ·rename_i e;exact NB e ha hb _
  ·cases h
theorem T2{P:Program}{w:World}(h:Instr.sameBits 10000 v u=true):(Instr.keyThatStays v u).run P w= .ok u w:=by simp[Instr.keyThatStays,h]
theorem SV:∀{l:List MapEntry} {i:Nat},(∀e∈l,Instr.sameNow kd v e.key=some false)->Instr.findNow kd v l i=some none
 |[],_,_=>rfl
 |e::l,i,h=>by simp only[Instr.findNow,h e List.mem_cons_self];exact SV fun e he=>h e<|List.mem_cons_of_mem _ he
theorem SW{kd:TypeDesc}{v:Value}:∀{l:List MapEntry} {i:Nat},(∀e∈l,∃c,Instr.sameNow kd v e.key=some c)->(∃e∈l,Instr.sameNow kd v e.key=some true)->
 ∃j e,l[j]? =some e/\Instr.sameNow kd v e.key=some true/\Instr.findNow kd v l i=some (some (i+j,e.val))
 |[],_,_,h=>by obtain⟨_,h,_⟩:=h;cases h
 |e::l,i,h,k=>by
  obtain⟨c,hc⟩:=h e List.mem_cons_self;cases c with
  |true=>exact⟨0,e,rfl,hc,by simp only[Instr.findNow,hc,Nat.add_zero]⟩
  |false=>
   obtain⟨e2,h2,h3⟩:=k;have sO:e2∈l:=by
    rcases List.mem_cons.1 h2 with rfl|h2
    ·rw[hc] at h3;cases h3
    ·exact h2
   obtain⟨j,e3,g1,g2,g3⟩:=SW (i:=i+1) (fun e he=>h e<|List.mem_cons_of_mem _ he) ⟨e2,sO,h3⟩;exact⟨j+1,e3,by simpa using g1,g2,by simp only[Instr.findNow,hc];rw[g3];congr 3;omega⟩
section
variable {P:Program} {B:aJ} {ρ:aw} {w:World} {s s1:AS} {x:AV} {SI:aO} {t:Tr AV} {ev:Operand->Value} {o:Oper}
theorem dW.get:∀{es:List<|AV×AV} {l:List MapEntry} {i:Nat} {e:MapEntry},dW ρ es l->l[i]? =some e->∃p,es[i]? =some p/\VR ρ p.1 e.key/\VR ρ p.2 e.val
 |[],l,i,e,h,k=>by have h':l=[]:=h;subst h';simp at k
 |p::es,l,i,e,h,k=>by
  obtain⟨e2,l2,rfl,h1,h2,h3⟩:=h;cases i with
  |zero=>simp at k;subst k;exact⟨p,rfl,h1,h2⟩
  |succ i=>simp at k;obtain⟨q,g1,g2⟩:=h3.get k;exact⟨q,by simpa using g1,g2⟩
theorem dW.get'{i:Nat}{p:AV×AV}(h:dW ρ es l)(k:es[i]? =some p):∃e,l[i]? =some e/\VR ρ p.1 e.key/\VR ρ p.2 e.val:=by obtain⟨li,ei⟩:=List.getElem?_eq_some_iff.1 k;have hl:=h.length;have hi:l[i]? =some (l[i]'ak):=List.getElem?_eq_getElem _;obtain⟨q,g1,g2⟩:=h.get hi;rw[k] at g1;cases g1;exact⟨_,hi,g2⟩
theorem Tb{k:TypeId}{r:Option<|Nat×AV}(hk:P.underlying k=some kd)(hp:plainKey P k key=true)(hv:VR ρ key v)(ka:lE es)(he:dW ρ es l')(hl:l.Perm l')(h:kZ key es 0=some r):
 (r=none->Instr.findNow kd v l 0=some none)/\(∀j y,r=some (j,y)->∃j' e,Instr.findNow kd v l 0=some (some (j',e.val))/\l[j']? =some e/\l'[j]? =some e/\VR ρ y e.val/\∃p,es[j]? =some p/\sameKey key p.1=some true):=by
 have au:∀e∈l,∃(j:Nat) (p:AV×AV),l'[j]? =some e/\es[j]? =some p/\VR ρ p.1 e.key/\VR ρ p.2 e.val:=by
  intro e hm;obtain⟨j,hj,e1⟩:=List.getElem_of_mem<|hl.mem_iff.1 hm;have wP:l'[j]? =some e:=by rw[List.getElem?_eq_getElem hj,e1]
  obtain⟨p,g1,g2,g3⟩:=he.get wP;exact⟨j,p,wP,g1,g2,g3⟩
 constructor
 ·intro hr;subst hr;refine SV fun e hm=>?_;obtain⟨j,p,g1,g2,g3,g4⟩:=au e hm;exact Gl hk hp (Nf h p<|List.mem_of_getElem? g2) hv g3
 ·intro j y hr;subst hr;obtain⟨_,q,h1,h2,h3⟩:=SJ h;rw[Nat.sub_zero] at h1;have all:∀e∈l,∃(j2:Nat) (p:AV×AV),l'[j2]? =some e/\es[j2]? =some p/\VR ρ p.2 e.val/\Instr.sameNow kd v e.key=some (decide<|j2=j):=by
   intro e hm;obtain⟨j2,p,g1,g2,g3,g4⟩:=au e hm;refine⟨j2,p,g1,g2,g4,?_⟩;by_cases e2:j2=j
   ·subst e2;rw[h1] at g2;cases g2;simp only[decide_true];exact Gl hk hp h3 hv g3
   ·rw[decide_eq_false e2];refine Gl hk hp ?_ hv g3;rw[Nl h3];exact ka.at h1 g2<|Ne.symm e2
  obtain⟨e0,g1,g2,g3⟩:=he.get' h1;have AQ:e0∈l:=hl.mem_iff.2<|List.mem_of_getElem? g1;obtain⟨j',e,f1,f2,f3⟩:=SW (kd:=kd) (v:=v) (l:=l) (i:=0) (fun e hm=>let ⟨_,_,_,_,_,h⟩:=all e hm;⟨_,h⟩) ⟨e0,AQ,Gl hk hp h3 hv g2⟩;rw[Nat.zero_add] at f3;obtain⟨j2,p,a1,a2,a3,a4⟩:=all e<|List.mem_of_getElem? f1;rw[f2] at a4;injection a4 with a4
  have e2:j2=j:=by simpa using a4.symm
  subst e2;rw[h1] at a2;cases a2;exact⟨j',e,f3,f1,a1,by rw[←h2];exact a3,q,h1,h3⟩
theorem abv(h:short es=true)(he:dW ρ es l')(hl:l.Perm l'):dW ρ es l:=by
 have hlen:=he.length;unfold short at h;split at h<;>first|(cases h;done)|skip
 ·have:l'=[]:=by cases l'<;>first|rfl|simp at hlen
  subst this;rw[List.perm_nil.1 hl];exact he
 ·match l',hlen,hl,he with
  |[e],_,hl,he=>rw[List.perm_singleton.1 hl];exact he
theorem VR.AO{ok b:Bool}{y:AV}{v:Value}(h:VR ρ y v):VR ρ (AO ok y b) (if ok=true then .tuple #[v,.bool b] else v):=by
 cases ok with
 |false=>exact h
 |true=>simp only[Rn.AO,if_true,VR,az];exact⟨_,rfl,v,_,rfl,h,.bool b,_,rfl,rfl,rfl⟩
theorem NC:∀{d:Nat} {k:TypeId} {key:AV},oT P d k key=true->∃kd,P.underlying k=some kd
 |0,_,_,h=>by simp only[oT] at h;cases h
 |d+1,k,key,h=>by
  simp only[oT] at h;cases q:P.underlying k with
  |none=>rw[q] at h;cases h
  |some kd=>exact⟨kd,rfl⟩
theorem aa1{ok:Bool}{va vk:Value}(ha:VR ρ a va)(qd:VR ρ key vk)(fi:bE s)(r:Rel B ρ s.h w)(h:zL P ty a key ok s= .ok x s1):
 jR P B ρ s s1 w x (Instr.lookup ty va vk ok):=by
 unfold zL at h;cases e1:P.underlying ty with
 |none=>simp only[e1] at h;cases h
 |some d=>
  cases d<;>simp only[e1] at h<;>first|(cases h;done)|skip
  rename_i k e;obtain⟨es,s2,h1,h2⟩:=M.aR h;obtain⟨h3,h4⟩:=cX h2;obtain⟨f,h5,h6⟩:=bu h4;have sP:∃kd,P.underlying k=some kd:=by exact NC h3
  obtain⟨kd,sP⟩:=sP;have wQ:∀em,(Instr.checkKey em 10000 k vk).run P w= .ok () w:=fun em=>JA h3 qd;have main:∃l:Array MapEntry,((va= .map none/\l= #[])\/∃b bj,va= .map (some b)/\w.heap[b]? =some (.map l bj))/\s2.h=s.h/\s2.nx=s.nx/\
   ∃r',(Instr.findKey k vk l.toList).run P w= .ok r' w/\(f=none->r'=none)/\(∀j y,f=some (j,y)->∃j' z,r'=some (j',z)/\VR ρ y z):=by
   have exact:∀l:Array MapEntry,dW ρ es l.toList->∃r',(Instr.findKey k vk l.toList).run P w= .ok r' w/\(f=none->r'=none)/\(∀j y,f=some (j,y)->∃j' z,r'=some (j',z)/\VR ρ y z):=by intro l he;obtain⟨r',g1,g2⟩:=S9 (P:=P) (w:=w) sP qd he h5;refine⟨r',g1,fun q=>by subst q;exact g2,fun j y q=>?_⟩;subst q;obtain⟨z,_,_,q1,q2,_⟩:=g2;exact⟨j,z,q1,q2⟩
   unfold zS at h1;split at h1
   ·obtain⟨rfl,rfl⟩:=bH h1;simp only[VR] at ha;subst ha;exact⟨#[],.inl ⟨rfl,rfl⟩,rfl,rfl,exact #[] rfl⟩
   ·rename_i m;obtain⟨ob,s3,h7,h8⟩:=M.aR h1;obtain⟨hx,hg,hh,cJ⟩:=fY h7;have ht:m<top:=Nat.lt_of_lt_of_le hx fi.nx;simp only[VR] at ha;obtain⟨b,N,hm,rfl⟩:=ha;obtain⟨o',hb,hO,_⟩:=r.block ht hg hm;cases ob with
    |map hJ bj=>obtain⟨rfl,rfl⟩:=bH h8;obtain⟨l,rfl,_,q⟩:=hO;exact⟨l,.inr ⟨b,bj,rfl,hb⟩,hh,cJ,exact l q.eqs⟩
    |lF hJ=>
     obtain⟨h9,gH⟩:=cX h8;obtain⟨rfl,rfl⟩:=bH gH;obtain⟨l,bj,rfl,ka,_,l',hp,he⟩:=hO;refine⟨l,.inr ⟨b,bj,rfl,hb⟩,hh,cJ,?_⟩;cases q:plainKey P k key with
     |false=>rw[q] at h9;exact exact l<|abv h9 he hp
     |true=>
      unfold findKey at h5;have hz:uP _=true:=WO h5;simp only[hz] at h5;simp only[q] at h5;obtain⟨g1,g2⟩:=Tb sP q qd ka he hp h5;cases f with
      |none=>exact⟨none,MapKept.run_findKey sP<|g1 rfl,(fun _=>rfl),(fun j y e=>by cases e)⟩
      |some p=>obtain⟨j,y⟩:=p;obtain⟨j',e,f1,_,_,f2,_⟩:=g2 j y rfl;exact⟨some (j',e.val),MapKept.run_findKey sP f1,(fun e=>by cases e),(fun j y e2=>by cases e2;exact⟨j',_,rfl,f2⟩)⟩
    |_=>cases h8
   ·cases h1
  obtain⟨l,m1,m2,m3,r',m4,m5,m6⟩:=main;cases f with
  |some p=>
   obtain⟨j,y⟩:=p;obtain⟨rfl,rfl⟩:=bH h6;obtain⟨j',z,rfl,hz⟩:=m6 j y rfl;refine⟨ρ,w,_,by rw[m3];exact Ext.refl _ _ _,?_,hz.AO,by rw[m2];exact r,cP.refl _ _⟩;rcases m1 with⟨rfl,rfl⟩|⟨b,bj,rfl,hb⟩
   ·simp only[Instr.lookup,Sem.run_bind,de e1,Result.andThen_ok,wQ,m4,Sem.run_pure]
   ·simp only[Instr.lookup,Sem.run_bind,de e1,Result.andThen_ok,MapKept.run_getObj_map hb,wQ,m4,Sem.run_pure]
  |none=>
   obtain⟨z,h7,h8⟩:=bu h6;obtain⟨rfl,rfl⟩:=bH h8;have:=m5 rfl;subst this;obtain⟨vz,g1,g2⟩:=Jk (P:=P) (w:=w) ρ h7;refine⟨ρ,w,_,by rw[m3];exact Ext.refl _ _ _,?_,g2.AO,by rw[m2];exact r,cP.refl _ _⟩;rcases m1 with⟨rfl,rfl⟩|⟨b,bj,rfl,hb⟩
   ·simp only[Instr.lookup,Sem.run_bind,de e1,Result.andThen_ok,wQ,m4,Sem.run_pure,g1]
   ·simp only[Instr.lookup,Sem.run_bind,de e1,Result.andThen_ok,MapKept.run_getObj_map hb,wQ,m4,Sem.run_pure,g1]
theorem aa2{y z:Operand}{ok:Bool}(he:∀x v,aK t x=some v->VR ρ v (ev x))(fi:bE s)(r:Rel B ρ s.h w)(h:xM P ty y z ok SI t s= .ok x s1)(ho:o.op= .lookup ty y z ok):gh P B ρ s s1 w x<|execOp ev o:=by unfold xM at h;obtain⟨a,h1,h2⟩:=bu h;obtain⟨b,h3,h4⟩:=bu h2;have:=(aa1 (P:=P) (he y a h1) (he z b h3) fi r h4).op;simpa only[execOp,ho] using this
end
end Go.Rn
namespace Go.Rn
open Go.RowKit
variable {key:AV} {vv vk:Value} {es:List<|AV×AV} {e:MapEntry} {ty:TypeId} {l:List MapEntry} {i bj:Nat}
theorem T3:∀(es:List<|AV×AV) (i j:Nat) (k v:AV),(putAt es i k v)[j]? =if j=i then(es[j]?).map (fun _=>(k,v)) else es[j]?
 |[],i,j,k,v=>by simp[putAt]
 |p::es,0,j,k,v=>by cases j<;>simp[putAt]
 |p::es,i+1,j,k,v=>by
  cases j with
  |zero=>simp[putAt]
  |succ j=>simp[putAt,T3 es i j k v]
theorem SX:∀(es:List<|AV×AV) (i:Nat) (k v:AV),(putAt es i k v).length=es.length
 |[],_,_,_=>rfl
 |_::_,0,_,_=>rfl
 |_::es,i+1,k,v=>by simp[putAt,SX es i k v]
def rQ(k v:Value)(e:MapEntry):MapEntry:={e with key:=k,val:=v}
theorem jX.put{ρ:aw}{val:AV}(hk:VR ρ key vk)(hv:VR ρ val vv):∀{es:List<|AV×AV} {l:List MapEntry} {n i:Nat},jX ρ es l n->jX ρ (putAt es i key val) (l.modify i<|rQ vk vv) n
 |[],l,n,i,h=>by have h':l=[]:=h;subst h';cases i<;>rfl
 |p::es,l,n,0,h=>by obtain⟨e,l',rfl,a,b,c,d⟩:=h;exact⟨rQ vk vv e,l',rfl,hk,hv,c,d⟩
 |p::es,l,n,i+1,h=>by obtain⟨e,l',rfl,a,b,c,d⟩:=h;exact⟨e,l'.modify i<|rQ vk vv,rfl,a,b,c,d.put hk hv⟩
theorem dW.put{ρ:aw}{val:AV}(hk:VR ρ key vk)(hv:VR ρ val vv):∀{es:List<|AV×AV} {l:List MapEntry} {i:Nat},dW ρ es l->dW ρ (putAt es i key val) (l.modify i<|rQ vk vv)
 |[],l,i,h=>by have h':l=[]:=h;subst h';cases i<;>rfl
 |p::es,l,0,h=>by obtain⟨e,l',rfl,a,b,d⟩:=h;exact⟨rQ vk vv e,l',rfl,hk,hv,d⟩
 |p::es,l,i+1,h=>by obtain⟨e,l',rfl,a,b,d⟩:=h;exact⟨e,l'.modify i<|rQ vk vv,rfl,a,b,d.put hk hv⟩
theorem jX.push{ρ:aw}{val:AV}(hk:VR ρ key e.key)(hv:VR ρ val e.val):∀{es:List<|AV×AV} {l:List MapEntry} {n:Nat},jX ρ es l n->e.born=n+es.length->jX ρ (es++[(key,val)]) (l++[e]) n
 |[],l,n,h,hb=>by have h':l=[]:=h;subst h';exact⟨e,[],rfl,hk,hv,hb,rfl⟩
 |p::es,l,n,h,hb=>by obtain⟨e2,l',rfl,a,b,c,d⟩:=h;exact⟨e2,l'++[e],rfl,a,b,c,d.push hk hv (by simp at hb;omega)⟩
theorem dW.push{ρ:aw}{val:AV}(hk:VR ρ key e.key)(hv:VR ρ val e.val):∀{es:List<|AV×AV} {l:List MapEntry},dW ρ es l->dW ρ (es++[(key,val)]) (l++[e])
 |[],l,h=>by have h':l=[]:=h;subst h';exact⟨e,[],rfl,hk,hv,rfl⟩
 |p::es,l,h=>by obtain⟨e2,l',rfl,a,b,d⟩:=h;exact⟨e2,l'++[e],rfl,a,b,d.push hk hv⟩
theorem lE.of(h:∀(i j:Nat) (p q:AV×AV),i≠j->es[i]? =some p->es[j]? =some q->sameKey p.1 q.1=some false):lE es:=by unfold lE;rw[List.pairwise_iff_getElem];intro i j hi hj mM;exact⟨h i j _ _ ak (List.getElem?_eq_getElem hi)<|List.getElem?_eq_getElem hj,h j i _ _ ak (List.getElem?_eq_getElem hj)<|List.getElem?_eq_getElem hi⟩
theorem lE.put(h:lE es){p:AV×AV}{val:AV}(hi:es[i]? =some p)(hk:sameKey key p.1=some true):lE<|putAt es i key val:=by
 refine lE.of fun j k a b hjk ha hb=>?_;rw[T3] at ha hb;by_cases e1:j=i
 ·have e2:k≠i:=by omega
  rw[if_pos e1,e1,hi] at ha;rw[if_neg e2] at hb;simp only[Option.map_some,Option.some.injEq] at ha;rw[←ha];show sameKey key b.1=some false;rw[Nl hk];exact h.at hi hb<|Ne.symm e2
 ·rw[if_neg e1] at ha;by_cases e2:k=i
  ·rw[if_pos e2,e2,hi] at hb;simp only[Option.map_some,Option.some.injEq] at hb;rw[←hb];show sameKey a.1 key=some false;rw[Nm,Nl hk];exact h.at hi ha<|Ne.symm e1
  ·rw[if_neg e2] at hb;exact h.at ha hb hjk
theorem lE.push(h:lE es){val:AV}(hk:∀p∈es,sameKey key p.1=some false):lE<|es++[(key,val)]:=by unfold lE at h ⊢;rw[List.pairwise_append];refine⟨h,by simp,fun a ha b hb=>?_⟩;simp only[List.mem_singleton] at hb;subst hb;exact⟨by rw[Nm];exact hk a ha,hk a ha⟩
theorem OG{α:Type}(f:α->α):∀{l:List α} {j:Nat} {e:α},l[j]? =some e->l.Perm (e::l.eraseIdx j)/\(l.modify j f).Perm (f e::l.eraseIdx j)
 |[],j,e,h=>by simp at h
 |a::l,0,e,h=>by simp at h;subst h;exact⟨List.Perm.refl _,List.Perm.refl _⟩
 |a::l,j+1,e,h=>by
  simp at h;obtain⟨p,q⟩:=OG f h;refine⟨?_,?_⟩
  ·exact(p.cons a).trans<|List.Perm.swap _ _ _
  ·rw[List.modify_succ_cons];exact(q.cons a).trans<|List.Perm.swap _ _ _
theorem acg{α:Type}(f:α->α){l l':List α}{j:Nat}{e:α}(hl:l.Perm l')(hi:l[i]? =some e)(hj:l'[j]? =some e):(l.modify i f).Perm<|l'.modify j f:=by obtain⟨p,q⟩:=OG f hi;obtain⟨p',q'⟩:=OG f hj;have:=((p.symm.trans hl).trans p').cons_inv;exact(q.trans<|this.cons _).trans q'.symm
theorem Ns(k v:Value):∀(l:List MapEntry) (i:Nat),(l.modify i<|rQ k v).map (·.born)=l.map (·.born)
 |[],i=>by cases i<;>rfl
 |e::l,0=>rfl
 |e::l,i+1=>by rw[List.modify_succ_cons];simp[Ns k v l i]
theorem tT.modify(h:tT l bj)(k v:Value)(i:Nat):tT (l.modify i<|rQ k v) bj:=by refine⟨by rw[Ns];exact h.1,fun e he=>?_⟩;have:e.born∈(l.modify i<|rQ k v).map (·.born):=List.mem_map_of_mem he;rw[Ns] at this;obtain⟨e2,h2,h3⟩:=List.mem_map.1 this;rw[←h3];exact h.2 e2 h2
theorem tT.push(h:tT l bj)(he:e.born=bj):tT (l++[e])<|bj+1:=by
 refine⟨?_,fun e2 h2=>?_⟩
 ·rw[List.map_append,List.nodup_append];refine⟨h.1,by simp,fun a ha b hb=>?_⟩;simp only[List.map_cons,List.map_nil,List.mem_singleton] at hb;obtain⟨e2,h2,h3⟩:=List.mem_map.1 ha;have:=h.2 e2 h2;omega
 ·rcases List.mem_append.1 h2 with h2|h2
  ·have:=h.2 e2 h2;omega
  ·simp only[List.mem_singleton] at h2;subst h2;omega
section
variable {P:Program} {B:aJ} {ρ:aw} {w:World} {s s1:AS} {x:AV} {SI:aO} {t:Tr AV} {ev:Operand->Value} {o:Oper}
theorem DJ{w:World}{b:Nat}{o o':Obj}(hb:w.heap[b]? =some o):
 xY b w {w with heap:=w.heap.setIfInBounds b o'}/\({w with heap:=w.heap.setIfInBounds b o'}:World).heap[b]? =some o':=by
 refine⟨⟨rfl,rfl,rfl,by simp,fun k hk=>?_⟩,?_⟩
 ·show(w.heap.setIfInBounds b o')[k]? =w.heap[k]?;rw[Array.getElem?_setIfInBounds_ne ak]
 ·show(w.heap.setIfInBounds b o')[b]? =some o';exact Array.getElem?_setIfInBounds_self_of_lt<|gV hb
theorem abw{m val:AV}{vm:Value}{u:Unit}(hm:VR ρ m vm)(qd:VR ρ key vk)(eK:VR ρ val vv)(fi:bE s)(r:Rel B ρ s.h w)(h:xW P ty m key val s= .ok u s1):
 s1.nx=s.nx/\∃w',(Instr.mapUpdate ty vm vk vv).run P w= .ok () w'/\Rel B ρ s1.h w'/\cP B w w':=by
 unfold xW at h;cases e1:P.underlying ty with
 |none=>simp only[e1] at h;cases h
 |some d=>
  cases d<;>simp only[e1] at h<;>first|(cases h;done)|skip
  rename_i k e;cases m<;>first|(cases h;done)|skip
  rename_i q;cases q with
  |none=>cases h
  |some n=>
   simp only[VR] at hm;obtain⟨b,N,hn,rfl⟩:=hm;obtain⟨ob,s2,h1,h2⟩:=M.aR h;obtain⟨hx,hg,hh,cJ⟩:=fY h1;have ht:n<top:=Nat.lt_of_lt_of_le hx fi.nx;obtain⟨o',hb,hO,hB⟩:=r.block ht hg hn;cases ob with
   |map es bj=>
    obtain⟨h3,h4⟩:=cX h2;obtain⟨f,h5,h6⟩:=bu h4;obtain⟨l,rfl,Ej,he⟩:=hO;obtain⟨kd,sP⟩:=NC h3;have wQ:∀em,(Instr.checkKey em 10000 k vk).run P w= .ok () w:=fun em=>JA h3 qd;obtain⟨r',g1,g2⟩:=S9 (P:=P) (w:=w) sP qd he.eqs h5;cases f with
    |some p=>
     obtain⟨j,y⟩:=p;obtain⟨z,q,e0,rfl,_,_,q1,q2,q3,_,_⟩:=g2;rw[Nat.sub_zero] at q1 q2;obtain⟨dG,h7,h8⟩:=bu (show(aC es[j]? fun dG=>aF (sameBits dG.1 key) <| bM n<|some<|.map (putAt es j key val) bj) s2= .ok u s1 from h6);obtain⟨h9,gH⟩:=cX h8;rw[q1] at h7;cases h7;have Qk:=aaO h9 q3 qd 9999;obtain⟨_,_,_,i1,i2⟩:=jy gH;obtain⟨g3,g4⟩:=DJ (o':=.map (l.modify j<|rQ vk vv) bj) hb;refine⟨by rw[i2,cJ],_,?_,?_,g3.below<|hB rfl⟩
     ·have hl:l[j]? =some e0:=by simpa using q2
      simp only[Instr.mapUpdate,Sem.run_bind,de e1,Result.andThen_ok,MapKept.run_getObj_map hb,wQ,g1,hl,Option.map_some,Option.getD_some,T2 Qk,MapKept.run_setObj_map _ hb];rfl
     ·rw[i1,hh];refine r.put ht hg rfl rfl hn rfl g3 g4 ⟨_,rfl,by rw[SX];exact Ej,?_⟩;rw[Array.toList_modify];exact he.put qd eK
    |none=>
     have AR:r'=none:=g2;subst AR;obtain⟨_,_,_,i1,i2⟩:=jy (show bM n (some<|.map (es++[(key,val)])<|bj+1) s2= .ok u s1 from h6);obtain⟨g3,g4⟩:=DJ (o':=.map (l.push {key:=vk,val:=vv,born:=bj})<|bj+1) hb;refine⟨by rw[i2,cJ],_,?_,?_,g3.below<|hB rfl⟩
     ·simp only[Instr.mapUpdate,Sem.run_bind,de e1,Result.andThen_ok,MapKept.run_getObj_map hb,wQ,g1,MapKept.run_setObj_map _ hb]
     ·rw[i1,hh];refine r.put ht hg rfl rfl hn rfl g3 g4 ⟨_,rfl,by simp[Ej],?_⟩;rw[Array.toList_push];exact he.push qd eK (by simp[Ej])
   |lF es=>
    obtain⟨h3,h4⟩:=cX h2;obtain⟨f,h5,h6⟩:=bu h4;obtain⟨hp,Zc⟩:=and_true.1 h3;obtain⟨l,bj,rfl,ka,AT,l',hl,he⟩:=hO;obtain⟨kd,sP⟩:=NC Zc;have wQ:∀em,(Instr.checkKey em 10000 k vk).run P w= .ok () w:=fun em=>JA Zc qd;unfold findKey at h5;have hz:uP _=true:=WO h5;simp only[hz] at h5;simp only[hp] at h5;obtain⟨f1,f2⟩:=Tb sP hp qd ka he hl h5;cases f with
    |some p=>
     obtain⟨j,y⟩:=p;obtain⟨j',e0,a1,a2,a3,a4,q,a5,a6⟩:=f2 j y rfl;obtain⟨_,_,_,i1,i2⟩:=jy (show bM n (some<|.lF<|putAt es j key val) s2= .ok u s1 from h6);obtain⟨g3,g4⟩:=DJ (o':=.map (l.modify j'<|rQ vk vv) bj) hb;have hq:VR ρ q.1 e0.key:=by obtain⟨q',b1,b2,_⟩:=he.get a3;rw[a5] at b1;cases b1;exact b2
     have Qk:Instr.sameBits 10000 e0.key vk=true:=NB (by rw[Nm];exact a6) hq qd 10000;refine⟨by rw[i2,cJ],_,?_,?_,g3.below<|hB rfl⟩
     ·have yW:l[j']? =some e0:=by simpa using a2
      simp only[Instr.mapUpdate,Sem.run_bind,de e1,Result.andThen_ok,MapKept.run_getObj_map hb,wQ,MapKept.run_findKey sP a1,yW,Option.map_some,Option.getD_some,T2 Qk,MapKept.run_setObj_map _ hb];rfl
     ·rw[i1,hh];refine r.put ht hg rfl rfl hn rfl g3 g4 ⟨_,_,rfl,ka.put a5 a6,?_,l'.modify j<|rQ vk vv,?_,he.put qd eK⟩
      ·rw[Array.toList_modify];exact AT.modify _ _ _
      ·rw[Array.toList_modify];exact acg _ hl a2 a3
    |none=>
     obtain⟨_,_,_,i1,i2⟩:=jy (show bM n (some<|.lF<|es++[(key,val)]) s2= .ok u s1 from h6);obtain⟨g3,g4⟩:=DJ (o':=.map (l.push {key:=vk,val:=vv,born:=bj})<|bj+1) hb;refine⟨by rw[i2,cJ],_,?_,?_,g3.below<|hB rfl⟩
     ·simp only[Instr.mapUpdate,Sem.run_bind,de e1,Result.andThen_ok,MapKept.run_getObj_map hb,wQ,MapKept.run_findKey sP<|f1 rfl,MapKept.run_setObj_map _ hb]
     ·rw[i1,hh];refine r.put ht hg rfl rfl hn rfl g3 g4 ⟨_,_,rfl,ka.push<|Nf h5,?_,l'++[{key:=vk,val:=vv,born:=bj}],?_,dW.push (e:={key:=vk,val:=vv,born:=bj}) qd eK he⟩
      ·rw[Array.toList_push];exact AT.push rfl
      ·rw[Array.toList_push];exact hl.append_right _
   |_=>cases h2
theorem Tc{a b c:Operand}(he:∀x v,aK t x=some v->VR ρ v (ev x))(fi:bE s)(r:Rel B ρ s.h w)(h:qF P ty a b c SI t s= .ok x s1)(ho:o.op= .mapUpdate ty a b c\/o.op= .insert ty a b c):gh P B ρ s s1 w x<|execOp ev o:=by unfold qF at h;obtain⟨m,h1,h2⟩:=bu h;obtain⟨k,h3,h4⟩:=bu h2;obtain⟨v,h5,h6⟩:=bu h4;obtain⟨u,s2,h7,h8⟩:=M.aR h6;obtain⟨rfl,rfl⟩:=bH h8;obtain⟨a1,w',a2,a3,a4⟩:=abw (P:=P) (he a m h1) (he b k h3) (he c v h5) fi r h7;refine⟨ρ,w',.skip,by rw[a1];exact Ext.refl _ _ _,?_,rfl,a3,a4⟩;rcases ho with ho|ho<;>simp[execOp,ho,a2]
end
end Go.Rn
namespace Go.Rn
open Go.RowKit
variable {y:Operand} {ty:TypeId} {es:List<|AV×AV} {b:Nat}
section
variable {P:Program} {B:aJ} {ρ:aw} {w:World} {s s1:AS} {x:AV} {SI:aO} {t:Tr AV} {ev:Operand->Value} {o:Oper}
theorem jX.born:∀{es:List<|AV×AV} {l:List MapEntry} {n:Nat},jX ρ es l n->l.map (·.born)=List.range' n es.length
 |[],l,n,h=>by have h':l=[]:=h;subst h';rfl
 |p::es,l,n,h=>by obtain⟨e,l',rfl,a,b,c,d⟩:=h;rw[List.map_cons,c,d.born,List.length_cons,List.range'_succ]
theorem jX.WQ{l:List MapEntry}(h:jX ρ es l 0):tT l es.length:=by have hb:=h.born;refine⟨by rw[hb];exact List.nodup_range',fun e he=>?_⟩;have:e.born∈l.map (·.born):=List.mem_map_of_mem he;rw[hb,List.mem_range'_1] at this;omega
theorem Rel.ajN{h:Tr ae}(r:Rel B ρ h w){n m:Nat}{p:ae}{N:Nat}{ex:Bool}{l:Array MapEntry}{bj:Nat}(Zd:n<top)(Iw:ρ n=none)(pv:m<top)(hg:h.get m=some p)(hp:p.plain=true)(cH:p.du=false)(hm:ρ m=some (b,N))(hb:w.heap[b]? =some (.map l bj))(AT:tT l.toList bj)(h1:ex=true->bj=es.length/\jX ρ es l.toList 0)(h2:ex=false->lE es/\wL ρ es l.toList)(h3:wL ρ es l.toList):
 Rel B (eQ ρ n (w.heap.size,1)) ((h.put m<|some .jP).put n<|some<|.iter m es ex es none) {w with heap:=w.heap.push<|.mapIter (some b) bj #[] bj}:=by
 have hl:ρ.le<|eQ ρ n (w.heap.size,1):=oD Iw;have sL:m≠n:=by intro e;subst e;rw[hm] at Iw;cases Iw
 have mm:h.get n=none:=by
  cases e:h.get n with
  |none=>rfl
  |some p=>obtain⟨_,_,_,h1,_⟩:=r.is n p Zd e;rw[Iw] at h1;cases h1
 have g:∀k,k<top->((h.put m<|some .jP).put n<|some<|.iter m es ex es none).get k=if k=n then some (.iter m es ex es none) else if k=m then some .jP else h.get k:=by intro k hk;rw[Tr.dt _ _ _ _ Zd hk,Tr.dt _ _ _ _ pv hk]
 have hw:∀k,k<w.heap.size->(w.heap.push<|.mapIter (some b) bj #[] bj)[k]? =w.heap[k]? :=(gX.alloc w _).block;obtain⟨_,_,_,hB⟩:=r.block pv hg hm;have size:∀k q,k<top->h.get k=some q->∀b1 N1,ρ k=some (b1,N1)->b1<w.heap.size:=by intro k q hk hq b1 N1 e;obtain⟨b2,N2,o2,e1,e2,_⟩:=r.is k q hk hq;rw[e] at e1;cases e1;exact gV e2
 have dG:∀k q,k<top->(if k=m then some ae.jP else h.get k)=some q->∃q',h.get k=some q'/\(q.du=false->q'.du=false):=by
  intro k q hk hq;by_cases e:k=m
  ·subst e;exact⟨p,hg,fun _=>cH⟩
  ·rw[if_neg e] at hq;exact⟨q,hq,id⟩
 refine⟨?_,?_,?_,fun k hk=>r.size k<|Nat.le_trans jI hk,?_,r.fz.of hl (fun b1 uS _=>hw b1 uS) (fun b1 uS hn j q M hj hq hU e=>by
  rw[g j hj] at hq;by_cases a:j=n
  ·subst a;rw[iQ] at e;cases e;exact absurd uS (Nat.lt_irrefl _)
  ·rw[if_neg a] at hq;rw[gM ρ _ a] at e;obtain⟨q',e1,e2⟩:=dG j q hj hq;exact hn j q' M hj e1 (e2 hU) e),r.tk.of hl (fun j q hj hq yB=>by
  rw[g j hj] at hq;by_cases a:j=n
  ·rw[if_pos a] at hq;cases hq;cases yB
  ·rw[if_neg a] at hq;by_cases a2:j=m
   ·rw[if_pos a2] at hq;cases hq;cases yB
   ·rw[if_neg a2] at hq;exact hq) jI (fun b1 uS _=>hw b1 uS) (fun b1 uS hn j q M hj hq hU e=>by
  rw[g j hj] at hq;by_cases a:j=n
  ·subst a;rw[iQ] at e;cases e;exact absurd uS (Nat.lt_irrefl _)
  ·rw[if_neg a] at hq;rw[gM ρ _ a] at e;obtain⟨q',e1,e2⟩:=dG j q hj hq;exact hn j q' M hj e1 (e2 hU) e) (fun j x sh _ _ e=>by rw[gM ρ _ (by have:=gg j x sh;omega)];exact e)⟩
 ·intro k q hk hq;rw[g k hk] at hq;by_cases e:k=n
  ·subst e;rw[if_pos rfl] at hq;cases hq;refine⟨w.heap.size,1,.mapIter (some b) bj #[] bj,iQ _ _ _,by simp,?_,fun _=>r.size _<|Nat.le_refl _⟩;exact⟨b,N,bj, #[],hl _ _ hm,rfl⟩
  ·rw[if_neg e] at hq;by_cases e2:k=m
   ·subst e2;rw[if_pos rfl] at hq;cases hq;exact⟨b,N,_,hl _ _ hm,(hw b<|gV hb).trans hb,⟨l,bj,rfl⟩,fun _=>hB cH⟩
   ·rw[if_neg e2] at hq;obtain⟨b1,N1,o1,c1,c2,c3,c4⟩:=r.is k q hk hq;exact⟨b1,N1,o1,hl _ _ c1,(hw b1<|gV c2).trans c2,c3.mono hl,c4⟩
 ·intro k j q q' b1 N1 M1 hk hj hq dR cZ e1 e2;rw[g k hk] at hq;rw[g j hj] at dR;by_cases a1:k=n
  ·by_cases a2:j=n
   ·omega
   ·rw[if_neg a2] at dR;subst a1;rw[iQ] at e1;cases e1;rw[gM ρ _ a2] at e2;obtain⟨q2,Ix,Ze⟩:=dG j q' hj dR;exact absurd (size j q2 hj Ix _ _ e2)<|Nat.lt_irrefl _
  ·rw[if_neg a1] at hq;rw[gM ρ _ a1] at e1;obtain⟨q1,Mq,hr1⟩:=dG k q hk hq;by_cases a2:j=n
   ·subst a2;rw[iQ] at e2;cases e2;exact absurd (size k q1 hk Mq _ _ e1)<|Nat.lt_irrefl _
   ·rw[if_neg a2] at dR;rw[gM ρ _ a2] at e2;obtain⟨q2,Ix,Ze⟩:=dG j q' hj dR;exact r.one k j q1 q2 b1 N1 M1 hk hj Mq Ix (cZ.imp hr1 Ze) e1 e2
 ·intro i m' hJ iW left cur hi hq;rw[g i hi] at hq;by_cases e:i=n
  ·subst e;rw[if_pos rfl] at hq;cases hq;refine⟨pv,by rw[g m pv,if_neg sL,if_pos rfl],?_⟩;refine⟨w.heap.size,1,b,N,l,bj, #[],iQ _ _ _,hl _ _ hm,by simp,(hw b<|gV hb).trans hb,AT,fun e=>⟨(h1 e).1,(h1 e).2.mono hl⟩,fun e=>⟨(h2 e).1,(h2 e).2.mono hl⟩,?_,rfl⟩;have:(l.toList.filter fun e=> !(#[]:Array Nat).contains e.born)=l.toList:=List.filter_eq_self.2 jI;rw[this];exact h3.mono hl
  ·rw[if_neg e] at hq;by_cases e2:i=m
   ·subst e2;rw[if_pos rfl] at hq;cases hq
   ·rw[if_neg e2] at hq;obtain⟨eD,fx,b1,N1,bm,M,l1,agt,seen,c1,c2,c3,c4,c5⟩:=r.iter i m' hJ iW left cur hi hq;have d1:m'≠n:=by intro e3;subst e3;rw[mm] at fx;cases fx
    refine⟨eD,?_,np.mono hl ⟨b1,N1,bm,M,l1,agt,seen,c1,c2,(hw b1<|gV c3).trans c3,(hw bm<|gV c4).trans c4,c5⟩⟩;rw[g m' eD,if_neg d1];by_cases d2:m'=m
    ·rw[if_pos d2]
    ·rw[if_neg d2];exact fx
 ·have new:∀i,i<top->∀AU AW Ad Aw,(if i=m then some ae.jP else h.get i)≠some (.iter m AU AW Ad Aw):=by
   intro i hi AU AW Ad Aw hq;by_cases e:i=m
   ·rw[if_pos e] at hq;cases hq
   ·rw[if_neg e] at hq;obtain⟨_,fx,_⟩:=r.iter i m _ _ _ _ hi hq;rw[hg] at fx;cases fx;simp[ae.plain] at hp
  intro i j m' AU AW Ad Aw Mr Ms Lm LN hi hj q1 q2;rw[g i hi] at q1;rw[g j hj] at q2;by_cases e:i=n
  ·by_cases e2:j=n
   ·omega
   ·rw[if_pos e] at q1;rw[if_neg e2] at q2;cases q1;exact absurd q2<|new j hj _ _ _ _
  ·rw[if_neg e] at q1;by_cases e2:j=n
   ·rw[if_pos e2] at q2;cases q2;exact absurd q1<|new i hi _ _ _ _
   ·rw[if_neg e2] at q2;by_cases e3:i=m
    ·rw[if_pos e3] at q1;cases q1
    ·rw[if_neg e3] at q1;by_cases e4:j=m
     ·rw[if_pos e4] at q2;cases q2
     ·rw[if_neg e4] at q2;exact r.lone i j m' _ _ _ _ _ _ _ _ hi hj q1 q2
theorem aa3{m:Option Nat}{c c':Nat}{seen:Array Nat}(hb:w.heap[b]? =some (.mapIter m c seen c')):(getObj b).run P w= .ok (.mapIter m c seen c') w:=by simp[getObj,Sem.run,hb]
theorem aa4{a:AV}{va:Value}(ha:VR ρ a va)(fi:bE s)(r:Rel B ρ s.h w)(hf:dJ s.nx s1.nx ρ)(h:BH P ty a s= .ok x s1):jR P B ρ s s1 w x<|Instr.range ty va:=by
 unfold BH at h;cases e1:P.underlying ty with
 |none=>simp only[e1] at h;cases h
 |some d=>
  cases d<;>simp only[e1] at h<;>first|(cases h;done)|skip
  cases a<;>first|(cases h;done)|skip
  rename_i q;cases q with
  |none=>cases h
  |some m=>
   simp only[VR] at ha;obtain⟨b,N,hm,rfl⟩:=ha;obtain⟨ob,s2,h1,h2⟩:=M.aR h;obtain⟨hx,hg,hh,cJ⟩:=fY h1;have pv:m<top:=Nat.lt_of_lt_of_le hx fi.nx;obtain⟨o',hb,hO,hB⟩:=r.block pv hg hm;have fin:∀(es:List<|AV×AV) (ex:Bool) (l:Array MapEntry) (bj:Nat),ob.plain=true->ob.du=false->w.heap[b]? =some (.map l bj)->tT l.toList bj->(ex=true->bj=es.length/\jX ρ es l.toList 0)->(ex=false->lE es/\wL ρ es l.toList)->wL ρ es l.toList->
    ((bM m<|some .jP).bind fun _=>(gC<|.iter m es ex es none).bind fun n=>M.pure<|.ptr<|some (n,0)) s2= .ok x s1->jR P B ρ s s1 w x (Instr.range ty<|.map<|some b):=by
    intro es ex l bj hp cH iO AT p1 p2 p3 h3;obtain⟨u,s3,h4,h5⟩:=M.aR h3;obtain⟨n,s4,h6,h7⟩:=M.aR h5;obtain⟨rfl,rfl⟩:=bH h7;obtain⟨_,_,_,i1,i2⟩:=jy h4;obtain⟨ht,rfl,rfl⟩:=vw h6;have e:s3.nx=s.nx:=i2.trans cJ;have ji:ρ s3.nx=none:=hf s3.nx ak (Nat.lt_succ_self _) ak;refine⟨eQ ρ s3.nx (w.heap.size,1),_,.pointer<|some ⟨w.heap.size,0,none⟩,?_,?_,?_,?_,(gX.alloc w<|.mapIter (some b) bj #[] bj).below r.size⟩
    ·rw[←e];exact Ext.mK ji
    ·simp only[Instr.range,Sem.run_bind,de e1,Result.andThen_ok,MapKept.run_getObj_map iO,Sem.run_pure,newObj,Sem.run]
    ·simp only[VR];exact⟨_,_,iQ _ _ _,rfl⟩
    ·show Rel B _ (s3.h.put s3.nx<|some<|.iter m es ex es none) _;rw[i1,hh];exact r.ajN ht ji pv hg hp cH hm iO AT p1 p2 p3
   cases ob with
   |map es bj=>obtain⟨l,rfl,Ej,he⟩:=hO;exact fin es true l bj rfl rfl hb (by rw[Ej];exact he.WQ) (fun _=>⟨Ej,he⟩) (fun e=>by cases e) ⟨_,List.Perm.refl _,he.eqs⟩ h2
   |lF es=>obtain⟨l,bj,rfl,ka,AT,he⟩:=hO;exact fin es false l bj rfl rfl hb AT (fun e=>by cases e) (fun _=>⟨ka,he⟩) he h2
   |_=>cases h2
theorem abx(he:∀x v,aK t x=some v->VR ρ v (ev x))(fi:bE s)(r:Rel B ρ s.h w)(hf:dJ s.nx s1.nx ρ)(h:BY P ty y SI t s= .ok x s1)(ho:o.op= .range ty y):gh P B ρ s s1 w x<|execOp ev o:=by unfold BY at h;obtain⟨a,h1,h2⟩:=bu h;have:=(aa4 (P:=P) (he y a h1) fi r hf h2).op;simpa only[execOp,ho] using this
theorem find_born{e:MapEntry}:∀{l:List MapEntry},(l.map (·.born)).Nodup->e∈l->l.find? (·.born == e.born)=some e
 |[],_,h=>by cases h
 |a::l,hn,h=>by
  rw[List.map_cons,List.nodup_cons] at hn;rcases List.mem_cons.1 h with rfl|h
  ·simp
  ·have:(a.born == e.born)=false:=by rw[beq_eq_false_iff_ne];intro q;exact hn.1 (by rw[q];exact List.mem_map_of_mem h)
   rw[List.find?_cons,this];exact find_born hn.2 h
theorem aby(he:∀x v,aK t x=some v->VR ρ v (ev x))(fi:bE s)(r:Rel B ρ s.h w)(h:BZ y SI t s= .ok x s1)(ho:o.op= .entry y):gh P B ρ s s1 w x<|execOp ev o:=by
 unfold BZ at h;obtain⟨a,h1,h2⟩:=bu h;have ha:=he y a h1;unfold D7 at h2;split at h2
 ·rename_i n;obtain⟨ob,s2,h3,h4⟩:=M.aR h2;obtain⟨hx,hg,hh,cJ⟩:=fY h3;have ht:n<top:=Nat.lt_of_lt_of_le hx fi.nx;split at h4
  ·rename_i m es ex left k v;obtain⟨rfl,rfl⟩:=bH h4;obtain⟨_,_,b,N,bm,M,l,bj,seen,c1,c2,c3,c4,c5,_,_,_,c9⟩:=r.iter n m es ex left _ ht hg;obtain⟨e,d1,d2,d3,d4⟩:=c9;simp only[VR] at ha;obtain⟨b',N',q1,q2⟩:=ha;rw[c1] at q1;cases q1;refine⟨ρ,w,.value<|.tuple #[e.key,e.val],by rw[cJ];exact Ext.refl _ _ _,?_,?_,by rw[hh];exact r,cP.refl _ _⟩
   ·have hf:l.find? (·.born == e.born)=some e:=by rw[←Array.find?_toList];exact find_born c5.1 d1
    simp only[execOp,ho,q2,Instr.entry,Sem.run_bind,aa3 c3,Result.andThen_ok,d2,MapKept.run_getObj_map c4,bne_self_eq_false,Bool.false_eq_true,if_false,hf,Sem.run_pure]
   ·simp only[VR,az];exact⟨_,rfl,_,_,rfl,d3,_,_,rfl,d4,rfl⟩
  ·cases h4
 ·cases h2
theorem aaP(he:∀x v,aK t x=some v->VR ρ v (ev x))(fi:bE s)(r:Rel B ρ s.h w)(h:DV y SI t s= .ok x s1)(ho:o.op= .next y true):gh P B ρ s s1 w x<|execOp ev o:=by have h':(R.bad:R AV)= .ok x s1:=h;cases h'
end
end Go.Rn
namespace Go.Rn
open Go.RowKit
variable {y:Operand} {ts:Array TypeId} {args:Array Operand}
def agu(P:Program)(l:Nat)(f:FuncId)(tmps:Array Value)(assign body:Code)(w:World)(R:Value->World->Prop):Prop:=∀(c:Frame) (cs:List Frame),∃v w',R v w'/\Steps P (lone (Frame.round l f tmps assign body .normal) (c::cs) w) (lone (c.finish v) cs w')
def jo(P:Program)(r:Result Next)(R:Value->World->Prop):Prop:=
 match r with
 | .ok (.value v) w=>R v w
 | .ok .skip w=>R undef w
 | .ok (.enter f args) w=>Calls P f args w fun e w'=>∃v,e= .returned v/\R v w'
 | .ok (.round l f tmps assign body) w=>agu P l f tmps assign body w R
 |_=>False
def kg(B:aJ)(ρ:aw)(s s1:AS)(w:World)(x:AV):Value->World->Prop:=fun v w'=>∃σ,Ext s.nx s1.nx ρ σ/\VR σ x v/\Rel B σ s1.h w'/\cP B w w'
structure fR (P:Program) (B:aJ) (SI:aO):Prop where
 fn:∀(f:FuncId) (args:List AV) (x:AV) (s s1:AS) (ρ:aw) (w:World) (vs:Array Value),bE s->Rel B ρ s.h w->gk ρ->dJ s.nx s1.nx ρ->SI (.fn f) args s= .ok x s1->az ρ args vs.toList->
  jo P ((callFunc f vs).run P w) (kg B ρ s s1 w x)
 round:∀(l b N:Nat) (args:List AV) (x:AV) (s s1:AS) (ρ:aw) (w:World) (vs:Array Value),bE s->Rel B ρ s.h w->gk ρ->dJ s.nx s1.nx ρ->SI (.round l) args s= .ok x s1->az ρ args vs.toList->
  ρ l=some (b,N)->jo P ((Instr.yield b vs).run P w) (kg B ρ s s1 w x)
 row:B0 B SI
section
variable {P:Program} {B:aJ} {ρ:aw} {w:World} {s s1:AS} {x:AV} {SI:aO} {t:Tr AV} {ev:Operand->Value} {o:Oper}
theorem gh.back{c:Sem Next}(h:gh P B ρ s s1 w x c):jo P (c.run P w)<|kg B ρ s s1 w x:=by
 obtain⟨σ,w',nv,a,b,d,e,f⟩:=h;rw[b];cases nv<;>first|(cases d;done)|skip
 ·exact⟨σ,a,d,e,f⟩
 ·exact⟨σ,a,by rw[d];exact VR.undef σ,e,f⟩
theorem VR.UM{f:Fn}{a c:List AV}{v:Value}(h:VR ρ (.func f a c) v):VD f=true/\∃p q,v= .func f p q/\az ρ a p.toList/\az ρ c q.toList:=by simpa only[VR] using h
theorem ach(hc:fR P B SI)(he:∀x v,aK t x=some v->VR ρ v (ev x))(hg:gk ρ)(fi:bE s)(r:Rel B ρ s.h w)(hf:dJ s.nx s1.nx ρ)(h:uo y args.toList SI t s= .ok x s1)(ho:o.op= .call ⟨.value y,args,ts⟩):jo P ((execOp ev o).run P w)<|kg B ρ s s1 w x:=by
 unfold uo at h;obtain⟨l,h1,h2⟩:=bu h;obtain⟨f,h3,h4⟩:=bu h2;have hl:=GM he h1;have yX:=he y f h3;unfold nr at h4;split at h4
 ·rename_i g first captured
  obtain⟨_,p,q,e,hp,hq⟩:=yX.UM;have Ql:az ρ (first++l++captured) (p++args.map ev++q).toList:=by rw[Array.toList_append,Array.toList_append];exact(hp.append<|by simpa using hl).append hq
  have:=hc.fn g _ x s s1 ρ w _ fi r hg hf h4 Ql;simp only[execOp,ho,resolve,Deferred.ofValue,e,Sem.run_bind,Sem.run_pure,Result.andThen_ok,invoke];exact this
 ·rename_i n;have jJ:=yX;simp only[VR] at jJ;obtain⟨b,N,hn,e⟩:=jJ;have:=hc.round n b N _ x s s1 ρ w (args.map ev) fi r hg hf h4 (by simpa using hl) hn;simp only[execOp,ho,resolve,Deferred.ofValue,e,Sem.run_bind,Sem.run_pure,Result.andThen_ok,invoke];simpa using this
 ·cases h4
theorem aa5{name:String}(hc:fR P B SI)(he:∀x v,aK t x=some v->VR ρ v (ev x))(hg:gk ρ)(fi:bE s)(r:Rel B ρ s.h w)(hf:dJ s.nx s1.nx ρ)(h:Pb P y name args.toList SI t s= .ok x s1)(ho:o.op= .call ⟨.invoke y name,args,ts⟩):jo P ((execOp ev o).run P w)<|kg B ρ s s1 w x:=by have h':(R.bad:R AV)= .ok x s1:=h;cases h'
end
end Go.Rn
namespace Go.Rn
open Go.RowKit
section
variable {P:Program} {B:aJ} {ρ:aw} {w:World} {s s1:AS} {x:AV} {SI:aO} {t:Tr AV} {o:Oper}
theorem agv{a:Act}{nt:Nat}(hc:fR P B SI)(hl:∀t a,SH<|SI t a)(ht:TR ρ nt t a.tmps)(hg:gk ρ)(fi:bE s)(r:Rel B ρ s.h w)(hf:dJ s.nx s1.nx ρ)(h:(dO P o.op).val SI t s= .ok x s1):
 (∀c,o.op≠ .defer c)/\jo P ((execOp a.eval o).run P w) (kg B ρ s s1 w x):=by
 have he:∀x v,aK t x=some v->VR ρ v (a.eval x):=fun x v=>D8 ht hg;cases eU:o.op
 all_goals rw[eU] at h
 case move y=>exact⟨by simp,(TY (SI:=SI) he r h<|.inl eU).back⟩
 case assign y=>exact⟨by simp,(TY (SI:=SI) he r h<|.inr eU).back⟩
 case pick c p q=>exact⟨by simp,(aca (SI:=SI) he r h eU).back⟩
 case alloc e=>exact⟨by simp,(abi (SI:=SI) (t:=t) r hf h eU).back⟩
 case box e y=>exact⟨by simp,(adk (SI:=SI) he r hf h eU).back⟩
 case build ty parts=>exact⟨by simp,(abl (SI:=SI) he r h eU).back⟩
 case buildSlice ty len parts=>exact⟨by simp,(aap (SI:=SI) he r hf h eU).back⟩
 case load ty y=>exact⟨by simp,(acb (SI:=SI) hc.row he fi r h eU).back⟩
 case store ty y z=>exact⟨by simp,(abj (SI:=SI) he fi r h eU).back⟩
 case nilCheck y=>exact⟨by simp,(aax (SI:=SI) he r h eU).back⟩
 case binOp op ty y z u=>exact⟨by simp,(adl (SI:=SI) he r h eU).back⟩
 case unOp op ty y=>exact⟨by simp,(aeJ (SI:=SI) he r h eU).back⟩
 case convert src dst y=>exact⟨by simp,(aaI (SI:=SI) he fi r h eU).back⟩
 case makeInterface ty y=>exact⟨by simp,(aan (SI:=SI) he r h eU).back⟩
 case makeFunc fn first captured=>exact⟨by simp,(aay (SI:=SI) he r h eU).back⟩
 case makeMap ty y=>exact⟨by simp,(aaJ (SI:=SI) he r hf h eU).back⟩
 case makeSlice ty l c=>exact⟨by simp,(aau (SI:=SI) he r hf h eU).back⟩
 case slice ty y lo hi mx=>exact⟨by simp,(abq (SI:=SI) he r h eU).back⟩
 case fieldAddr ty y f=>exact⟨by simp,(aas (SI:=SI) he r h eU).back⟩
 case field ty y f=>exact⟨by simp,(abo (SI:=SI) he r h eU).back⟩
 case indexAddr ty y z=>exact⟨by simp,(aat (SI:=SI) he r h eU).back⟩
 case index ty y z=>exact⟨by simp,(abp (SI:=SI) he r h eU).back⟩
 case lookup ty y z ok=>exact⟨by simp,(aa2 (SI:=SI) he fi r h eU).back⟩
 case mapUpdate ty m k y=>exact⟨by simp,(Tc (SI:=SI) he fi r h<|.inl eU).back⟩
 case insert ty m k y=>exact⟨by simp,(Tc (SI:=SI) he fi r h<|.inr eU).back⟩
 case typeAssert y xt asserted ok=>exact⟨by simp,(aaY (SI:=SI) he r h eU).back⟩
 case range ty y=>exact⟨by simp,(abx (SI:=SI) he fi r hf h eU).back⟩
 case entry y=>exact⟨by simp,(aby (SI:=SI) he fi r h eU).back⟩
 case next y Ry=>
  cases Ry with
  |true=>exact⟨by simp,(aaP (SI:=SI) he fi r h eU).back⟩
  |false=>exact absurd (show(fail:M AV) s= .ok x s1 from h) (by intro e;cases e)
 case extract y i=>exact⟨by simp,(aaK (SI:=SI) he r h eU).back⟩
 case call c=>
  obtain⟨callee,args,ts⟩:=c;cases callee with
  |builtin b=>exact⟨by simp,(aaN (SI:=SI) hc.row hl he fi r hf h eU).back⟩
  |value f=>exact⟨by simp,ach hc he hg fi r hf h eU⟩
  |invoke recv name=>exact⟨by simp,aa5 hc he hg fi r hf h eU⟩
 all_goals (exact absurd (show(fail:M AV) s= .ok x s1 from h) (by intro e;cases e))
end
end Go.Rn
namespace Go.Rn
open Go.RowKit
variable {nt i:Nat} {a:Act} {ops:Array Oper} {t1:Tr AV} {dst:Option Tmp}
section
variable {P:Program} {B:aJ} {ρ:aw} {w:World} {s s1:AS} {x:AV} {SI:aO} {t:Tr AV} {o:Oper}
theorem T4{f:AV}{args:List AV}{vf:Value}{vs:Array Value}(hc:fR P B SI)(hg:gk ρ)(fi:bE s)(r:Rel B ρ s.h w)(hf:dJ s.nx s1.nx ρ)(yX:VR ρ f vf)(hl:az ρ args vs.toList)(h4:nr SI f args s= .ok x s1):jo P ((do let d ←Deferred.ofValue vf vs;invoke d.target d.args:Sem Next).run P w)<|kg B ρ s s1 w x:=by
 unfold nr at h4;split at h4
 ·rename_i g first captured
  obtain⟨_,p,q,e,hp,hq⟩:=yX.UM;have Ql:az ρ (first++args++captured) (p++vs++q).toList:=by rw[Array.toList_append,Array.toList_append];exact(hp.append hl).append hq
  have:=hc.fn g _ x s s1 ρ w _ fi r hg hf h4 Ql;simp only[Deferred.ofValue,e,Sem.run_bind,Sem.run_pure,Result.andThen_ok,invoke];exact this
 ·rename_i n;have jJ:=yX;simp only[VR] at jJ;obtain⟨b,N,hn,e⟩:=jJ;have:=hc.round n b N _ x s s1 ρ w vs fi r hg hf h4 hl hn;simp only[Deferred.ofValue,e,Sem.run_bind,Sem.run_pure,Result.andThen_ok,invoke];simpa using this
 ·cases h4
theorem Tq{R:Value->World->Prop}(ho:ops[i]? =some o)(hw:Region.wanted o (yielded ops a.tmps)=true)(hd:∀c,o.op≠ .defer c)(h:jo P ((execOp a.eval o).run P w) R)(b:Frame)(k:List Item)(cs:List Frame)(rest:List Nat):
 ∃v w',R v w'/\Steps P (lone (b.atR a<|.inRegion ops (i::rest)::k) cs w) (lone (b.atR (a.put o.dst v)<|.inRegion ops rest::k) cs w'):=by
 have hg:=stepGR_op (P:=P) (b:=b) (k:=k) (cs:=cs) (w:=w) (rest:=rest) ho hw;rw[Oper.semAt_eq _ _ _ hd] at hg;have qe:∀v,(b.atR a<|.inRegion ops (i::rest)::k).finish v=b.atR (a.put o.dst v) (.inRegion ops rest::k):=by intro v;rw[Frame.finish_atR,ho];rfl
 generalize hr:(execOp a.eval o).run P w=res at h;unfold jo at h;split at h
 ·rename_i v w';refine⟨v,w',h,.one<|step_lone_go ?_⟩;rw[hg, ←qe];simp[stepG.apply,hr]
 ·rename_i w';refine⟨undef,w',h,.one<|step_lone_go ?_⟩;rw[hg, ←qe];simp[stepG.apply,hr]
 ·rename_i f args w';obtain⟨e,nE,fr,⟨v,rfl,hR⟩,B1,ch,PJ⟩:=h<|b.atR a (.inRegion ops (i::rest)::k)::cs;have B2:step P (lone (b.atR a<|.inRegion ops (i::rest)::k) cs w)= .next (lone (Frame.enter P f args .normal) (b.atR a (.inRegion ops (i::rest)::k)::cs) w'):=step_lone_go (by rw[hg];simp[stepG.apply,hr,Frame.atR])
  refine⟨v,nE,hR,.head B2<|Steps.trans B1<|.one ?_⟩;rw[←qe];exact step_leave_returned PJ
 ·rename_i l f tmps assign body w';obtain⟨v,nE,hR,B1⟩:=h (b.atR a<|.inRegion ops (i::rest)::k) cs;have B2:step P (lone (b.atR a<|.inRegion ops (i::rest)::k) cs w)= .next (lone (Frame.round l f tmps assign body .normal) (b.atR a (.inRegion ops (i::rest)::k)::cs) w'):=step_lone_go (by rw[hg];simp[stepG.apply,hr,Frame.atR])
  refine⟨v,nE,hR,.head B2 ?_⟩;rw[←qe];exact B1
 ·cases h
theorem aa6(ht:TR ρ nt t a.tmps)(j:Nat)(hk:tU ops t j=true):yielded ops a.tmps j=GL ops t j:=by
 unfold tU at hk;unfold yielded GL;cases e1:ops[j]? with
 |none=>rfl
 |some q=>
  rw[e1] at hk;simp only[Option.bind_some];simp only at hk;cases e2:q.dst with
  |none=>rfl
  |some d=>
   rw[e2] at hk;simp only[Option.bind_some];simp only at hk;cases e4:t.get d with
   |none=>rw[e4] at hk;cases hk
   |some y=>
    have hv:=ht.2 d y e4;rw[Array.getD_eq_getD_getElem?] at hv;cases e3:a.tmps[d]? with
    |none=>rw[e3] at hv;cases y<;>first|rfl|(exfalso;simp only[Option.getD_none,VR,Go.undef] at hv;cases hv)
    |some v=>
     rw[e3] at hv;simp only[Option.getD_some] at hv;cases v with
     |bool c=>rw[VI hv]
     |_=>cases y<;>first|rfl|(exfalso;simp only[VR] at hv;cases hv)
theorem aa7{g:Nat×Bool}(ht:TR ρ nt t a.tmps)(hg:o.guard=some g)(hk:tU ops t g.1=true):Region.wanted o (yielded ops a.tmps)=qG ops g t:=by
 unfold Region.wanted qG;rw[hg];simp only[aa6 ht g.1 hk];cases GL ops t g.1 with
 |none=>rfl
 |some b=>cases b<;>cases g.2<;>rfl
theorem DX{v:AV}(h:jk nt t dst v=some t1):(dst=none/\t1=t)\/∃d,dst=some d/\d<nt/\t1=t.put d (some v):=by
 cases dst with
 |none=>injection h with h;exact .inl ⟨rfl,h.symm⟩
 |some d=>
  have h': @Bool.rec (fun _=>Option<|Tr AV) none (some<|t.put d<|some v) (Nat.blt d nt)=some t1:=h;rw[zM] at h';by_cases q:d<nt
  ·rw[if_pos q] at h';injection h' with h';exact .inr ⟨d,rfl,q,h'.symm⟩
  ·rw[if_neg q] at h';cases h'
theorem DY{y:AV}{v:Value}(ht:TR ρ nt t a.tmps)(iX:nt<=top)(h:jk nt t dst y=some t1)(hv:VR ρ y v):TR ρ nt t1 (a.put dst v).tmps/\(a.put dst v).defers=a.defers:=by
 rcases DX h with⟨rfl,rfl⟩|⟨d,rfl,hd,rfl⟩
 ·exact⟨ht,rfl⟩
 ·exact⟨ht.set hd iX hv,rfl⟩
structure At (B:aJ) (ρ:aw) (s:AS) (nt:Nat) (t:Tr AV) (w:World) (a:Act):Prop where
 tr:TR ρ nt t a.tmps
 rel:Rel B ρ s.h w
 g:gk ρ
 nt:nt<=top
 cG:bE s
def Fh(P:Program)(B:aJ)(ρ:aw)(s s1:AS)(nt:Nat)(t1:Tr AV)(w:World)(a:Act)(m:Machine)(m':Act->World->Machine):Prop:=∃σ a' w',Ext s.nx s1.nx ρ σ/\At B σ s1 nt t1 w' a'/\a'.defers=a.defers/\cP B w w'/\Steps P m (m' a' w')
theorem UN(hc:fR P B SI)(hl:∀t a,SH<|SI t a)(ho:ops[i]? =some o)(ay:At B ρ s nt t w a)(hf:dJ s.nx s1.nx ρ)(h:gP P SI nt ops o t s= .ok t1 s1)(b:Frame)(k:List Item)(cs:List Frame)(rest:List Nat):
 Fh P B ρ s s1 nt t1 w a (lone (b.atR a<|.inRegion ops (i::rest)::k) cs w) (fun a' w'=>lone (b.atR a'<|.inRegion ops rest::k) cs w'):=by
 have main:∀(f:(dO P o.op).val SI t s=(dO P o.op).val SI t s),Region.wanted o (yielded ops a.tmps)=true->sI (dO P o.op) o.dst SI nt t s= .ok t1 s1->
  Fh P B ρ s s1 nt t1 w a (lone (b.atR a<|.inRegion ops (i::rest)::k) cs w) (fun a' w'=>lone (b.atR a'<|.inRegion ops rest::k) cs w'):=by
  intro _ hw hk;unfold sI at hk;obtain⟨v,s2,h1,h2⟩:=M.aR hk;obtain⟨h3,rfl⟩:=gT h2;obtain⟨hd,hb⟩:=agv hc hl ay.tr ay.g ay.cG ay.rel hf h1;obtain⟨u,w',⟨σ,e1,e2,e3,e4⟩,st⟩:=Tq ho hw hd hb b k cs rest;obtain⟨q1,q2⟩:=DY (ay.tr.mono e1.le) ay.nt h3 e2;exact⟨σ,a.put o.dst u,w',e1,⟨q1,e3,ay.g.mono e1.le,ay.nt,(SH.Ip P hl t o.op).cG ay.cG h1⟩,q2,e4,st⟩
 unfold gP Ci at h;cases hg:o.guard with
 |none=>rw[hg] at h;exact main rfl (by unfold Region.wanted;rw[hg]) h
 |some g=>
  rw[hg] at h;have h':uq ops g (dO P o.op) o.dst SI nt t s= .ok t1 s1:=h;unfold uq at h';obtain⟨hk,h'⟩:=cX h';have hw:=aa7 (ops:=ops) ay.tr hg hk;cases q:qG ops g t with
  |true=>rw[q] at h' hw;exact main rfl hw h'
  |false=>rw[q] at h' hw;obtain⟨h3,rfl⟩:=gT (show lift (jk nt t o.dst nj) s= .ok t1 s1 from h');obtain⟨q1,q2⟩:=DY ay.tr ay.nt h3<|VR.undef ρ;have hs:=stepR_op_skip (P:=P) (b:=b) (a:=a) (k:=k) (cs:=cs) (w:=w) (ops:=ops) (i:=i) (rest:=rest) (by simp[ho];simpa using hw);simp only[ho,Option.bind_some] at hs;exact⟨ρ,a.put o.dst undef,w,Ext.refl _ _ _,⟨q1,ay.rel,ay.g,ay.nt,ay.cG⟩,q2,cP.refl _ _,.one hs⟩
theorem OH{ops:Array Oper}{nt:Nat}(hc:fR P B SI)(hl:∀t a,SH<|SI t a)(b:Frame)(k:List Item)(cs:List Frame):∀(n i:Nat) (l:List Oper) {t t1:Tr AV} {s s1:AS} {ρ:aw} {a:Act} {w:World},l.length=n->ops.toList.drop i=l->
 At B ρ s nt t w a->dJ s.nx s1.nx ρ->jl P SI nt ops l t s= .ok t1 s1->
 Fh P B ρ s s1 nt t1 w a (lone (b.atR a<|.inRegion ops (List.range' i n)::k) cs w) (fun a' w'=>lone (b.atR a' k) cs w')
 |0,i,l,t,t1,s,s1,ρ,a,w,hn,_,ay,_,h=>by have:l=[]:=List.eq_nil_of_length_eq_zero hn;subst this;obtain⟨rfl,rfl⟩:=bH (show M.pure t s= .ok t1 s1 from h);exact⟨ρ,a,w,Ext.refl _ _ _,ay,rfl,cP.refl _ _,.one stepR_region_end⟩
 |n+1,i,l,t,t1,s,s1,ρ,a,w,hn,nf,ay,hf,h=>by
  cases l with
  |nil=>cases hn
  |cons o l=>
   obtain⟨t2,s2,h1,h2⟩:=M.aR (show((gP P SI nt ops o t).bind<|jl P SI nt ops l) s= .ok t1 s1 from h);have ho:ops[i]? =some o:=by
    have:(ops.toList.drop i)[0]? =some o:=by rw[nf];rfl
    rw[List.getElem?_drop] at this;simpa using this
   have ahT:ops.toList.drop (i+1)=l:=by rw[←List.drop_drop,nf];rfl
   have lu:s.nx<=s2.nx:=(SH.gP P hl nt ops o t).le ay.cG h1;have dH:bE s2:=(SH.gP P hl nt ops o t).cG ay.cG h1;have qq:s2.nx<=s1.nx:=(SH.jl P hl nt ops l t2).le dH h2;obtain⟨σ,a',w',e1,e2,e3,e4,e5⟩:=UN hc hl ho ay (hf.sub (Nat.le_refl _) qq) h1 b k cs<|List.range' (i+1) n;obtain⟨τ,Iy,nE,f1,f2,f3,f4,f5⟩:=OH hc hl b k cs n (i+1) l (by simpa using hn) ahT e2 (hf.next lu e1) h2;exact⟨τ,Iy,nE,e1.trans lu qq f1,f2,f3.trans e3,e4.trans f4,by rw[List.range'_succ];exact Steps.trans e5 f5⟩
theorem abz{id:Nat}(hc:fR P B SI)(hl:∀t a,SH<|SI t a)(ay:At B ρ s nt t w a)(hf:dJ s.nx s1.nx ρ)(h:jl P SI nt ops ops.toList t s= .ok t1 s1)(b:Frame)(k:List Item)(cs:List Frame):
 Fh P B ρ s s1 nt t1 w a (lone (b.atR a<|.code (.region id ops false)::k) cs w) (fun a' w'=>lone (b.atR a' k) cs w'):=by
 obtain⟨σ,a',w',e1,e2,e3,e4,e5⟩:=OH hc hl b k cs ops.size 0 ops.toList jI jI ay hf h;exact⟨σ,a',w',e1,e2,e3,e4,.head stepR_region (by rw[List.range_eq_range'];exact e5)⟩
end
end Go.Rn
namespace Go.Rn
open Go.RowKit
variable {listed:Array Bool} {i:Nat}
def oA(acc:Array Nat)(o:Oper):Nat:=o.after.foldl (fun s e=>if Region.binds .any e then s|||2 ^ e.on|||acc.getD e.on 0 else s) 0
theorem SY(acc:Array Nat)(o:Oper)(i:Nat):(oA acc o).testBit i=true↔∃e∈o.after.toList,Region.binds .any e=true/\(e.on=i\/(acc.getD e.on 0).testBit i=true):=by
 unfold oA;rw[←Array.foldl_toList];have:∀(l:List Edge) (s:Nat),(l.foldl (fun s e=>if Region.binds .any e then s|||2 ^ e.on|||acc.getD e.on 0 else s) s).testBit i=true↔
  s.testBit i=true\/∃e∈l,Region.binds .any e=true/\(e.on=i\/(acc.getD e.on 0).testBit i=true):=by
  intro l;induction l with
  |nil=>intro s;simp
  |cons e l ih=>
   intro s;rw[List.foldl_cons,ih];by_cases q:Region.binds .any e=true
   ·rw[if_pos q];simp only[Nat.testBit_or,Bool.or_eq_true,Nat.testBit_two_pow,decide_eq_true_eq,List.mem_cons,exists_eq_or_imp,q,true_and];constructor
    ·rintro ((h|h)|h)
     ·rcases h with h|h
      ·exact .inl h
      ·exact .inr<|.inl<|.inl h
     ·exact .inr<|.inl<|.inr h
     ·exact .inr<|.inr h
    ·rintro (h|(h|h)|h)
     ·exact .inl<|.inl<|.inl h
     ·exact .inl<|.inl<|.inr h
     ·exact .inl<|.inr h
     ·exact .inr h
   ·rw[if_neg q];simp only[List.mem_cons,exists_eq_or_imp,q,false_and,false_or,Bool.false_eq_true]
 have h:=this o.after.toList 0;simpa using h
theorem Nt(l:List Oper):∀(acc:Array Nat),(l.foldl (fun acc o=>acc.push<|oA acc o) acc).size=acc.size+l.length/\
 (∀k,k<acc.size->(l.foldl (fun acc o=>acc.push<|oA acc o) acc).getD k 0=acc.getD k 0):=by
 induction l with
 |nil=>intro acc;exact⟨by simp,fun k _=>rfl⟩
 |cons o l ih=>intro acc;rw[List.foldl_cons];obtain⟨h1,h2⟩:=ih<|acc.push<|oA acc o;refine⟨by rw[h1];simp;omega,fun k hk=>?_⟩;rw[h2 k wK];simp only[Array.getD_eq_getD_getElem?,Array.getElem?_push];rw[if_neg ak]
theorem T5{ops:Array Oper}{j:Nat}{o:Oper}(ho:ops[j]? =some o):
 (Region.before ops).getD j 0=oA ((ops.toList.take j).foldl (fun acc o=>acc.push<|oA acc o) #[]) o/\
 ∀k,k<j->((ops.toList.take j).foldl (fun acc o=>acc.push<|oA acc o) #[]).getD k 0=(Region.before ops).getD k 0:=by
 have hb:Region.before ops=ops.toList.foldl (fun acc o=>acc.push<|oA acc o) #[]:=by unfold Region.before;rw[←Array.foldl_toList];rfl
 have hj:j<ops.toList.length:=by have:=(Array.getElem?_eq_some_iff.1 ho).1;simpa using this
 have kL:ops.toList[j]? =some o:=by simpa using ho
 have agw:ops.toList=ops.toList.take j++o::ops.toList.drop (j+1):=by
  have e:ops.toList.drop j=o::ops.toList.drop (j+1):=by rw[List.drop_eq_getElem_cons hj];congr 1;rw[List.getElem?_eq_getElem hj] at kL;injection kL
  rw[←e,List.take_append_drop]
 obtain⟨s1,_⟩:=Nt (ops.toList.take j) #[];have lv:((ops.toList.take j).foldl (fun acc o=>acc.push<|oA acc o) #[]).size=j:=by rw[s1,List.length_take,Nat.min_eq_left ak];exact Nat.zero_add j
 generalize hA:(ops.toList.take j).foldl (fun acc o=>acc.push<|oA acc o) #[]=A at*;have yY:Region.before ops=(ops.toList.drop<|j+1).foldl (fun acc o=>acc.push<|oA acc o) (A.push<|oA A o):=by
  rw[hb]
  conv=>lhs;rw[agw]
  rw[List.foldl_append,hA,List.foldl_cons]
 obtain⟨_,q2⟩:=Nt (ops.toList.drop<|j+1)<|A.push<|oA A o;refine⟨?_,fun k hk=>?_⟩
 ·rw[yY,q2 j wK];rw[Array.getD_eq_getD_getElem?,Array.getElem?_push,if_pos lv.symm];rfl
 ·rw[yY,q2 k wK];simp only[Array.getD_eq_getD_getElem?,Array.getElem?_push];rw[if_neg ak]
theorem Td(ops:Array Oper):(Region.before ops).size=ops.size:=by
 have hb:Region.before ops=ops.toList.foldl (fun acc o=>acc.push<|oA acc o) #[]:=by unfold Region.before;rw[←Array.foldl_toList];rfl
 rw[hb,(Nt ops.toList #[]).1];simp
theorem aaD{ops:Array Oper}(he:JZ ops)(D:Nat->Prop)(hD:∀(j:Nat) (o:Oper) (e:Edge),ops[j]? =some o->D j->e∈o.after->Region.binds .any e=true->D e.on):
 ∀(n j i:Nat),j<=n->((Region.before ops).getD j 0).testBit i=true->i<j/\(D j->D i)/\((∀(o:Oper) (e:Edge),ops[j]? =some o->e∈o.after->Region.binds .any e=true->D e.on)->D i):=by
 intro n;induction n with
 |zero=>
  intro j i hj h;have:j=0:=by omega
  subst this;cases ho:ops[0]? with
  |none=>
   have:¬0<(Region.before ops).size:=by rw[Td];intro q;rw[Array.getElem?_eq_getElem q] at ho;cases ho
   rw[Array.getD_eq_getD_getElem?,Array.getElem?_eq_none ak] at h;simp at h
  |some o=>obtain⟨h1,_⟩:=T5 ho;rw[h1,SY] at h;obtain⟨e,hm,C3,_⟩:=h;exact absurd (he 0 o e ho (Array.mem_toList_iff.1 hm) C3)<|Nat.not_lt_zero _
 |succ n ih=>
  intro j i hj h;by_cases q:j<=n
  ·exact ih j i q h
  ·have:j=n+1:=by omega
   subst this;cases ho:ops[n+1]? with
   |none=>
    have:¬n+1<(Region.before ops).size:=by rw[Td];intro q;rw[Array.getElem?_eq_getElem q] at ho;cases ho
    rw[Array.getD_eq_getD_getElem?,Array.getElem?_eq_none ak] at h;simp at h
   |some o=>
    obtain⟨h1,h2⟩:=T5 ho;rw[h1,SY] at h;obtain⟨e,hm,C3,cZ⟩:=h;have eD:=Array.mem_toList_iff.1 hm;have cF:=he (n+1) o e ho eD C3;rcases cZ with rfl|cZ
    ·exact⟨cF,fun Rz=>hD _ o e ho Rz eD C3,fun dE=>dE o e rfl eD C3⟩
    ·rw[h2 e.on cF] at cZ;obtain⟨a,b,_⟩:=ih e.on i ak cZ;exact⟨by omega,fun Rz=>b<|hD _ o e ho Rz eD C3,fun dE=>b<|dE o e rfl eD C3⟩
def open_(listed:Array Bool):Nat:=(List.range listed.size).countP fun i=> !listed.getD i true
theorem aci{n:Nat}{p q:Nat->Bool}(hi:i<n)(hp:p i=true)(hq:q i=false)(cz:∀k,k≠i->q k=p k):(List.range n).countP q<(List.range n).countP p:=by
 induction n with
 |zero=>omega
 |succ n ih=>
  rw[List.range_succ,List.countP_append,List.countP_append];by_cases e:i=n
  ·subst e;have:(List.range i).countP q=(List.range i).countP p:=by
    apply List.countP_congr;intro k hk;have:k≠i:=by have:=List.mem_range.1 hk;omega
    rw[cz k this]
   rw[this];simp[hp,hq]
  ·have:=ih ak;have e2:(List.countP q [n])=List.countP p [n]:=by simp[List.countP_cons,cz n<|Ne.symm e]
   rw[e2];omega
theorem adr(hi:listed.getD i true=false):open_ (listed.setIfInBounds i true)<open_ listed:=by
 have cF:i<listed.size:=by
  rcases Nat.lt_or_ge i listed.size with q|q
  ·exact q
  ·rw[Array.getD_eq_getD_getElem?,Array.getElem?_eq_none q] at hi;cases hi
 unfold open_;rw[Array.size_setIfInBounds];refine aci cF (by simp[hi]) ?_ fun k hk=>?_
 ·simp[Array.getD_eq_getD_getElem?,Array.getElem?_setIfInBounds_self_of_lt cF]
 ·simp only[Array.getD_eq_getD_getElem?];rw[Array.getElem?_setIfInBounds_ne ak]
theorem acj(h:open_ listed=0):∀i,i<listed.size->listed.getD i false=true:=by intro i hi;unfold open_ at h;rw[List.countP_eq_zero] at h;have:=h i<|List.mem_range.2 hi;rw[Array.getD_eq_getD_getElem?,Array.getElem?_eq_getElem hi] at this ⊢;simpa using this
theorem abA{ops:Array Oper}(he:JZ ops)(hs:listed.size=ops.size)(hr:Region.ready .any ops listed=[]):∀n i,i<n->i<ops.size->listed.getD i false=true:=by
 intro n;induction n with
 |zero=>intro i hi;omega
 |succ n ih=>
  intro i hi cF;by_cases q:i<n
  ·exact ih i q cF
  ·have:i=n:=by omega
   subst this;cases h:listed.getD i false with
   |true=>rfl
   |false=>
    exfalso;have qZ:i∈Region.ready .any ops listed:=by
     unfold Region.ready;rw[List.mem_filter];refine⟨List.mem_range.2 cF,?_⟩;have h1:listed.getD i true=false:=by rw[Array.getD_eq_getD_getElem?,Array.getElem?_eq_getElem ak] at h ⊢;simpa using h
     rw[h1,Array.getElem?_eq_getElem cF];simp only[Bool.not_false,Bool.true_and,Option.map_some,Option.getD_some];rw[Array.all_eq_true_iff_forall_mem];intro e hm;cases hb:Region.binds .any e with
     |false=>rfl
     |true=>have ajO:=he i ops[i] e (Array.getElem?_eq_getElem cF) hm hb;simp only[Bool.not_true,Bool.false_or];exact ih e.on ajO ak
    rw[hr] at qZ;cases qZ
section
variable {P:Program} {ops:Array Oper}
theorem ack(he:JZ ops)(b:Frame)(k:List Item)(cs:List Frame)(Inv:Array Bool->Act->World->Prop)(ahU:∀(listed:Array Bool) (a:Act) (w:World) (i:Nat) (o:Oper) (rest:List Nat),listed.size=ops.size->Inv listed a w->ops[i]? =some o->listed.getD i true=false->
 (∀e∈o.after,Region.binds .any e=true->listed.getD e.on false=true)->
 ∃a' w',Inv (listed.setIfInBounds i true) a' w'/\Steps P (lone (b.atR a<|.inRegion ops (i::rest)::k) cs w) (lone (b.atR a'<|.inRegion ops rest::k) cs w')):
 ∀(fuel t:Nat) (listed:Array Bool) (a:Act) (w:World),listed.size=ops.size->open_ listed<=fuel->Inv listed a w->∃BJ a' w',BJ.size=ops.size/\(∀i,i<ops.size->BJ.getD i false=true)/\Inv BJ a' w'/\Steps P (lone (b.atR a<|.inRegion ops (Region.linearise.go .any ops fuel t listed [])::k) cs w) (lone (b.atR a' k) cs w'):=by
 intro fuel;induction fuel with
 |zero=>
  intro t listed a w hs ho hi;refine⟨listed,a,w,hs,?_,hi,?_⟩
  ·intro i cF;exact acj ak i ak
  ·simp only[Region.linearise.go,List.reverse_nil];exact .one stepR_region_end
 |succ fuel ih=>
  intro t listed a w hs ho hi;simp only[Region.linearise.go];change ∃BJ a' w',BJ.size=ops.size/\(∀i,i<ops.size->BJ.getD i false=true)/\Inv BJ a' w'/\
   Steps P (lone (b.atR a<|.inRegion ops (match (Region.ready .any ops listed)[t % (Region.ready .any ops listed).length]? with
    |some i=>Region.linearise.go .any ops fuel (t / (Region.ready .any ops listed).length) (listed.setIfInBounds i true) [i]
    |none=>[].reverse)::k) cs w) (lone (b.atR a' k) cs w')
  cases hq:(Region.ready .any ops listed)[t % (Region.ready .any ops listed).length]? with
  |none=>
   have LO:Region.ready .any ops listed=[]:=by
    cases hr:Region.ready .any ops listed with
    |nil=>rfl
    |cons x xs=>rw[hr] at hq;have cF:t % (x::xs).length<(x::xs).length:=Nat.mod_lt _ jI;simp at hq;simp at cF;omega
   refine⟨listed,a,w,hs,fun i cF=>abA he hs LO (i+1) i ak cF,hi,?_⟩;simp only[List.reverse_nil];exact .one stepR_region_end
  |some i=>
   simp only[];have qZ:=List.mem_of_getElem? hq;unfold Region.ready at qZ;rw[List.mem_filter,Bool.and_eq_true] at qZ;obtain⟨cF,h1,h2⟩:=qZ;have ajP:=List.mem_range.1 cF;have Zf:ops[i]? =some ops[i]:=Array.getElem?_eq_getElem ajP;rw[Zf] at h2;simp only[Option.map_some,Option.getD_some] at h2;rw[Array.all_eq_true_iff_forall_mem] at h2;have yS:listed.getD i true=false:=by simpa using h1
   rw[linearise_go_acc,List.reverse_singleton,List.singleton_append];obtain⟨a',w',j1,j2⟩:=ahU listed a w i ops[i] (Region.linearise.go .any ops fuel (t / (Region.ready .any ops listed).length) (listed.setIfInBounds i true) []) hs hi Zf yS (fun e hm hb=>by have:=h2 e hm;rw[hb] at this;simpa using this);obtain⟨l',Iy,nE,k0,k1,k2,k3⟩:=ih (t / (Region.ready .any ops listed).length) (listed.setIfInBounds i true) a' w' (by simp[hs]) (by have:=adr yS;omega) j1;exact⟨l',Iy,nE,k0,k1,k2,Steps.trans j2 k3⟩
theorem ads(n:Nat):open_ (Array.replicate n false)<=n:=by unfold open_;have:=List.countP_le_length (p:=fun i=> !(Array.replicate n false).getD i true) (l:=List.range (Array.replicate n false).size);simpa using this
end
end Go.Rn
namespace Go.Rn
open Go.RowKit
variable {g f:Operand->Option AV}
section
variable {P:Program} {SI:aO} {t u:Tr AV}
theorem Jp:∀{l:List Operand},(∀y∈l,f y=g y)->jQ f l=jQ g l
 |[],_=>rfl
 |y::l,h=>by simp only[jQ,h y List.mem_cons_self,Jp fun z hz=>h z<|List.mem_cons_of_mem _ hz]
theorem Nu:∀{l:List<|Nat×Operand},(∀y∈l,f y.2=g y.2)->vW f l=vW g l
 |[],_=>rfl
 |(i,y)::l,h=>by simp only[vW,h (i,y) List.mem_cons_self,Nu fun z hz=>h z<|List.mem_cons_of_mem _ hz]
theorem NU{y:Option Operand}(h:∀z,y=some z->f z=g z):opt f y=opt g y:=by
 cases y with
 |none=>rfl
 |some z=>simp only[opt,h z rfl]
theorem acm{op:Op}(h:∀y∈op.operands,aK t y=aK u y):(dO P op).val SI t=(dO P op).val SI u:=by
 cases op
 case move y=>show vX y SI t=vX y SI u;simp only[vX,h y fV]
 case assign y=>show vX y SI t=vX y SI u;simp only[vX,h y fV]
 case pick c p q=>show Ch c p q SI t=Ch c p q SI u;simp only[Ch,h c fV,h p fV,h q fV]
 case alloc e=>rfl
 case box e y=>show Cw y SI t=Cw y SI u;simp only[Cw,h y fV]
 case build ty parts=>show BV P ty parts.toList SI t=BV P ty parts.toList SI u;simp only[BV,Nu (f:=aK t) (g:=aK u) (l:=parts.toList) fun y hy=>h y.2 (by simp only[Op.operands,List.mem_toArray];exact List.mem_map_of_mem hy)]
 case buildSlice ty len parts=>show Bk P ty len parts.toList SI t=Bk P ty len parts.toList SI u;simp only[Bk,Nu (f:=aK t) (g:=aK u) (l:=parts.toList) fun y hy=>h y.2 (by simp only[Op.operands,List.mem_toArray];exact List.mem_map_of_mem hy)]
 case load ty y=>show uk P ty y SI t=uk P ty y SI u;simp only[uk,h y fV]
 case store ty y z=>show xX P ty y z SI t=xX P ty y z SI u;simp only[xX,h y fV,h z fV]
 case nilCheck y=>show Bp y SI t=Bp y SI u;simp only[Bp,h y fV]
 case binOp op ty y z v=>show uA P op ty y z SI t=uA P op ty y z SI u;simp only[uA,h y fV,h z fV]
 case unOp op ty y=>show CY op y SI t=CY op y SI u;simp only[CY,h y fV]
 case convert src dst y=>show Bw P src dst y SI t=Bw P src dst y SI u;simp only[Bw,h y fV]
 case makeInterface ty y=>show DF P ty y SI t=DF P ty y SI u;simp only[DF,h y fV]
 case makeFunc fn first captured=>show Bq fn first.toList captured.toList SI t=Bq fn first.toList captured.toList SI u;simp only[Bq,Jp (f:=aK t) (g:=aK u) (l:=first.toList) fun y hy=>h y (by simp only[Op.operands,Array.mem_append];exact .inl<|Array.mem_toList_iff.1 hy),Jp (f:=aK t) (g:=aK u) (l:=captured.toList) fun y hy=>h y (by simp only[Op.operands,Array.mem_append];exact .inr<|Array.mem_toList_iff.1 hy)]
 case makeMap ty y=>
  cases y with
  |none=>rfl
  |some y=>show Bx P ty (some y) SI t=Bx P ty (some y) SI u;simp only[Bx,h y fV]
 case makeSlice ty l c=>show Bm P ty l c SI t=Bm P ty l c SI u;simp only[Bm,h l fV,h c fV]
 case slice ty y lo hi mx=>show qI P ty y lo hi mx SI t=qI P ty y lo hi mx SI u;simp only[qI,h y fV,NU (f:=aK t) (g:=aK u) (y:=lo) (fun z hz=>h z<|by simp[Op.operands,hz]),NU (f:=aK t) (g:=aK u) (y:=hi) (fun z hz=>h z<|by simp[Op.operands,hz]),NU (f:=aK t) (g:=aK u) (y:=mx) fun z hz=>h z<|by simp[Op.operands,hz]]
 case fieldAddr ty y f=>show Bn P ty y f SI t=Bn P ty y f SI u;simp only[Bn,h y fV]
 case field ty y f=>show BW P ty y f SI t=BW P ty y f SI u;simp only[BW,h y fV]
 case indexAddr ty y z=>show qC P ty y z SI t=qC P ty y z SI u;simp only[qC,h y fV,h z fV]
 case index ty y z=>show BX P ty y z SI t=BX P ty y z SI u;simp only[BX,h y fV,h z fV]
 case lookup ty y z ok=>show xM P ty y z ok SI t=xM P ty y z ok SI u;simp only[xM,h y fV,h z fV]
 case mapUpdate ty m k y=>show qF P ty m k y SI t=qF P ty m k y SI u;simp only[qF,h m fV,h k fV,h y fV]
 case insert ty m k y=>show qF P ty m k y SI t=qF P ty m k y SI u;simp only[qF,h m fV,h k fV,h y fV]
 case typeAssert y xt asserted ok=>show D6 P asserted ok y SI t=D6 P asserted ok y SI u;simp only[D6,h y fV]
 case range ty y=>show BY P ty y SI t=BY P ty y SI u;simp only[BY,h y fV]
 case entry y=>show BZ y SI t=BZ y SI u;simp only[BZ,h y fV]
 case next y Ry=>
  cases Ry with
  |true=>show DV y SI t=DV y SI u;simp only[DV,h y fV]
  |false=>rfl
 case extract y i=>show By y i SI t=By y i SI u;simp only[By,h y fV]
 case call c=>
  obtain⟨callee,args,ts⟩:=c;have ha:∀(cl:Callee),(∀y∈(Op.call ⟨cl,args,ts⟩).operands,aK t y=aK u y)->jQ (aK t) args.toList=jQ (aK u) args.toList:=fun cl hh=>Jp fun y hy=>hh y (by simp only[Op.operands,Call.operands,Array.mem_append];exact .inr<|Array.mem_toList_iff.1 hy);cases callee with
  |builtin b=>show oz P b ts args.toList SI t=oz P b ts args.toList SI u;simp only[oz,ha _ h]
  |value f=>show uo f args.toList SI t=uo f args.toList SI u;simp only[uo,ha _ h,h f<|by simp[Op.operands,Call.operands]]
  |invoke r name=>rfl
 all_goals rfl
theorem adt{y:Operand}(h:∀d,y= .tmp d->t.get d=u.get d):aK t y=aK u y:=by
 cases y with
 |tmp d=>show t.get d=u.get d;rw[h d rfl]
 |_=>rfl
theorem Ts{nt:Nat}{ops:Array Oper}{o:Oper}(h:∀d∈o.looksAt ops,t.get d=u.get d){s s1:AS}{t1:Tr AV}(hr:gP P SI nt ops o t s= .ok t1 s1):
 ∃v,jk nt t o.dst v=some t1/\∀u1,jk nt u o.dst v=some u1->gP P SI nt ops o u s= .ok u1 s1:=by
 have eU:(dO P o.op).val SI t=(dO P o.op).val SI u:=acm fun y hy=>adt fun d hd=>h d (by unfold Oper.looksAt;refine List.mem_append_left _<|List.mem_filterMap.2 ⟨y,Array.mem_toList_iff.2 hy,by rw[hd]⟩);have main:sI (dO P o.op) o.dst SI nt t s= .ok t1 s1->∃v,jk nt t o.dst v=some t1/\∀u1,jk nt u o.dst v=some u1->sI (dO P o.op) o.dst SI nt u s= .ok u1 s1:=by intro hk;unfold sI at hk;obtain⟨v,s2,h1,h2⟩:=M.aR hk;obtain⟨h3,rfl⟩:=gT h2;refine⟨v,h3,fun u1 hu=>?_⟩;unfold sI;rw[←eU,M.bN h1];unfold lift;rw[hu]
 unfold gP Ci at hr ⊢;cases hg:o.guard with
 |none=>rw[hg] at hr;exact main hr
 |some g=>
  rw[hg] at hr;have lR:uq ops g (dO P o.op) o.dst SI nt t s= .ok t1 s1:=hr;have hw:qG ops g t=qG ops g u:=by
   unfold qG GL;cases e1:ops[g.1]? with
   |none=>rfl
   |some q=>
    simp only;cases e2:q.dst with
    |none=>rfl
    |some d=>simp only;rw[h d (by unfold Oper.looksAt;refine List.mem_append_right _ ?_;rw[hg];simp[e1,e2])]
  have iA:tU ops t g.1=tU ops u g.1:=by
   unfold tU;cases e1:ops[g.1]? with
   |none=>rfl
   |some q=>
    simp only;cases e2:q.dst with
    |none=>rfl
    |some d=>simp only;rw[h d (by unfold Oper.looksAt;refine List.mem_append_right _ ?_;rw[hg];simp[e1,e2])]
  show ∃v,jk nt t o.dst v=some t1/\∀u1,jk nt u o.dst v=some u1->uq ops g (dO P o.op) o.dst SI nt u s= .ok u1 s1;unfold uq at lR ⊢;obtain⟨hk,lR⟩:=cX lR;rw[←hw, ←iA,hk,dz];cases q:qG ops g t with
  |true=>rw[q] at lR;exact main lR
  |false=>rw[q] at lR;obtain⟨h3,rfl⟩:=gT (show lift (jk nt t o.dst nj) s= .ok t1 s1 from lR);refine⟨nj,h3,fun u1 hu=>?_⟩;show lift (jk nt u o.dst nj) s1= .ok u1 s1;unfold lift;rw[hu]
end
end Go.Rn
namespace Go.Rn
open Go.RowKit
variable {b:Array Nat}
theorem Rel.congr{B:aJ}{ρ:aw}{h h':Tr ae}{w:World}(r:Rel B ρ h w)(e:∀m,m<top->h'.get m=h.get m):Rel B ρ h' w:=by
 refine⟨fun n o hn hg=>r.is n o hn (by rw[←e n hn];exact hg),fun n m o p b N M hn hm h1 h2 cZ=>r.one n m o p b N M hn hm (by rw[←e n hn];exact h1) (by rw[←e m hm];exact h2) cZ,fun n m es ex left cur hn h1=>?_,r.size,
  fun i j m es ex left cur hJ iW iK iL hi hj h1 h2=>r.lone i j m es ex left cur hJ iW iK iL hi hj (by rw[←e i hi];exact h1) (by rw[←e j hj];exact h2),
  r.fz.of (aw.le_refl _) (fun _ _ _=>rfl) (fun b1 _ hn=>hn.sub fun m q hm hq hU=>⟨q,by rw[←e m hm];exact hq,hU⟩),
  r.tk.of (aw.le_refl _) (fun n q hn hq _=>by rw[←e n hn];exact hq) (Nat.le_refl _) (fun _ _ _=>rfl) (fun b1 _ hn=>hn.sub fun m q hm hq hU=>⟨q,by rw[←e m hm];exact hq,hU⟩) (fun _ _ _ _ _ e=>e)⟩
 obtain⟨a,b,c⟩:=r.iter n m es ex left cur hn (by rw[←e n hn];exact h1);exact⟨a,by rw[e m a];exact b,c⟩
theorem SK{x:dC}:∀{all:List dC},tF b x all=true->∀y∈all,x.i=y.i\/tV x y=true\/loose b x.i y.i=false
 |[],_,y,hy=>by cases hy
 |z::l,h,y,hy=>by
  simp only[tF] at h;cases q:(Nat.beq x.i z.i||(tV x z|| !loose b x.i z.i)) with
  |false=>rw[q] at h;cases h
  |true=>
   rw[q] at h;rcases List.mem_cons.1 hy with rfl|hy
   ·simp only[Bool.or_eq_true,Bool.not_eq_true'] at q;rcases q with q|q|q
    ·exact .inl<|eA.1 q
    ·exact .inr<|.inl q
    ·exact .inr<|.inr q
   ·exact SK h y hy
theorem T6{all:List dC}:∀{l:List dC},qL b all l=true->∀x∈l,tW x=true\/tF b x all=true
 |[],_,x,hx=>by cases hx
 |z::l,h,x,hx=>by
  simp only[qL] at h;cases q:(tW z||tF b z all) with
  |false=>rw[q] at h;cases h
  |true=>
   rw[q] at h;rcases List.mem_cons.1 hx with rfl|hx
   ·exact Bool.or_eq_true_iff.1 q
   ·exact T6 h x hx
theorem Te{m:List Nat}:∀{l:List Nat},meets l m=false->∀x∈l,x ∉ m
 |[],_,x,hx=>by cases hx
 |z::l,h,x,hx=>by
  simp only[meets] at h;cases q:Cx z m with
  |true=>rw[q] at h;cases h
  |false=>
   rw[q] at h;rcases List.mem_cons.1 hx with rfl|hx
   ·intro e;rw[JI.2 e] at q;cases q
   ·exact Te h x hx
theorem Tf{lo hi:Nat}:∀{l:List Nat},Ac lo hi l=false->∀x∈l,¬(lo<=x/\x<hi)
 |[],_,x,hx=>by cases hx
 |z::l,h,x,hx=>by
  simp only[Ac] at h;cases q:(Nat.ble lo z&&Nat.blt z hi) with
  |true=>rw[q] at h;cases h
  |false=>
   rw[q] at h;rcases List.mem_cons.1 hx with rfl|hx
   ·rintro ⟨h1,h2⟩;rw[show Nat.ble lo x=true from aL.2 h1,show Nat.blt x hi=true from(blt_eq _ _).mpr h2] at q;cases q
   ·exact Tf h x hx
section
variable {P:Program} {SI:aO} {ops:Array Oper} {nt:Nat}
structure QN (P:Program) (SI:aO) (ops:Array Oper) (nt:Nat) (H:Nat->Tr ae) (N:Nat->Nat) (T:Nat->Tr AV) (k:Nat) (o:Oper) (x:dC) (s1:AS):Prop where
 lo:x.lo=N k
 hi:x.hi=N (k+1)
 run:gP P SI nt ops o (T k) ⟨H k,N k,N k,[],[]⟩= .ok (T<|k+1) s1
 h:s1.h=H (k+1)
 nx:s1.nx=N (k+1)
 rd:x.rd=below (N k) s1.rd
 wr:x.wr=below (N k) s1.wr
theorem T7(hl:∀t a,SH<|SI t a):∀(l:List Oper) (i:Nat) {t t':Tr AV} {s s':AS} {ms:List dC},bE s->nu P SI nt ops l i t s= .ok (t',ms) s'->
 bE s'/\∃(H:Nat->Tr ae) (N:Nat->Nat) (T:Nat->Tr AV),H 0=s.h/\N 0=s.nx/\T 0=t/\H l.length=s'.h/\N l.length=s'.nx/\T l.length=t'/\(∀k,k<=l.length->N k<=top)/\∀k o,l[k]? =some o->∃x s1,ms[k]? =some x/\x.i=i+k/\QN P SI ops nt H N T k o x s1
 |[],i,t,t',s,s',ms,fi,h=>by obtain⟨e,rfl⟩:=bH (show M.pure (t,[]) s= .ok (t',ms) s' from h);cases e;exact⟨fi,fun _=>s'.h,fun _=>s'.nx,fun _=>t,rfl,rfl,rfl,rfl,rfl,rfl,fun _ _=>fi.nx,fun k o h=>by simp at h⟩
 |o::l,i,t,t',s,s',ms,fi,h=>by
  obtain⟨x,s2,h1,h2⟩:=M.aR (show((alone i<|gP P SI nt ops o t).bind fun x=>(nu P SI nt ops l (i+1) x.1).bind fun y=>M.pure (y.1,x.2::y.2)) s= .ok (t',ms) s' from h);obtain⟨y,s3,h3,h4⟩:=M.aR h2;obtain⟨e,rfl⟩:=bH h4;cases e;obtain⟨a,s1,g1,rfl,rfl⟩:=TW h1;have RA:bE s1:=(SH.gP P hl nt ops o t).cG (s:=⟨s.h,s.nx,s.nx,[],[]⟩) ⟨Nat.le_refl _,fi.nx⟩ g1;have fle:s.nx<=s1.nx:=(SH.gP P hl nt ops o t).le (s:=⟨s.h,s.nx,s.nx,[],[]⟩) ⟨Nat.le_refl _,fi.nx⟩ g1;have dH:bE ⟨s1.h,s1.nx,s.mark,below s.mark s1.rd++s.rd,below s.mark s1.wr++s.wr⟩:=⟨Nat.le_trans fi.mark fle,RA.nx⟩;obtain⟨f3,H,N,T,a1,a2,a3,a4,a5,a6,a7,a8⟩:=T7 hl l (i+1) (t':=y.1) (ms:=y.2) dH h3;refine⟨f3,fun k=>match k with|0=>s.h|k+1=>H k,fun k=>match k with|0=>s.nx|k+1=>N k,fun k=>match k with|0=>t|k+1=>T k,rfl,rfl,rfl,a4,a5,a6,?_,?_⟩
  ·intro k hk;cases k with
   |zero=>exact fi.nx
   |succ k=>exact a7 k (by simpa using hk)
  ·intro k o2 hk;cases k with
   |zero=>simp only[List.getElem?_cons_zero,Option.some.injEq] at hk;subst hk;refine⟨_,s1,rfl,rfl,⟨rfl,a2.symm,?_,a1.symm,a2.symm,rfl,rfl⟩⟩;show gP P SI nt ops o t ⟨s.h,s.nx,s.nx,[],[]⟩= .ok (T 0) s1;rw[a3];exact g1
   |succ k=>simp only[List.getElem?_cons_succ] at hk;obtain⟨x,s4,b1,b2,b3⟩:=a8 k o2 hk;exact⟨x,s4,by simpa using b1,by rw[b2];omega,⟨b3.lo,b3.hi,b3.run,b3.h,b3.nx,b3.rd,b3.wr⟩⟩
structure Text (P:Program) (SI:aO) (ops:Array Oper) (nt:Nat) (H:Nat->Tr ae) (N:Nat->Nat) (T:Nat->Tr AV) (Rd Wr:Nat->Nat->Prop):Prop where
 top:∀k,k<=ops.size->N k<=Rn.top
 up:∀k,k<ops.size->N k<=N (k+1)
 mX:∀k m,k<ops.size->¬Wr k m->m<Rn.top->(H<|k+1).get m=(H k).get m
 made:∀k m,k<ops.size->N k<=m->m<N (k+1)->Wr k m
 wrote:∀k m,k<ops.size->Wr k m->m<N (k+1)/\(m<N k->Rd k m)
 slot:∀k o d,ops[k]? =some o->o.dst≠some d->(T<|k+1).get d=(T k).get d
 apart:∀i j m,i<ops.size->j<ops.size->i≠j->loose (Region.before ops) i j=true->Wr i m->¬Rd j m
 again:∀j o,ops[j]? =some o->∀(h:Tr ae),(∀m,m<Rn.top->Rd j m->h.get m=(H j).get m)->∃t1,gP P SI nt ops o (T j) ⟨h,N j,N j,[],[]⟩= .ok (T<|j+1) t1/\t1.nx=N (j+1)/\
  (∀m,Wr j m->t1.h.get m=(H<|j+1).get m)/\(∀m,¬Wr j m->m<Rn.top->t1.h.get m=h.get m)
theorem aeK(hl:∀t a,SH<|SI t a)(iX:nt<=top){t t':Tr AV}{s s':AS}{ms:List dC}(fi:bE s)(h:nu P SI nt ops ops.toList 0 t s= .ok (t',ms) s')(hm:qL (Region.before ops) ms ms=true):
 bE s'/\∃(H:Nat->Tr ae) (N:Nat->Nat) (T:Nat->Tr AV) (Rd Wr:Nat->Nat->Prop),H 0=s.h/\N 0=s.nx/\T 0=t/\H ops.size=s'.h/\N ops.size=s'.nx/\T ops.size=t'/\Text P SI ops nt H N T Rd Wr:=by
 obtain⟨f',H,N,T,a1,a2,a3,a4,a5,a6,a7,a8⟩:=T7 hl ops.toList 0 fi h;have hlen:ops.toList.length=ops.size:=by simp
 rw[hlen] at a4 a5 a6 a7;refine⟨f',H,N,T,fun k m=>∃x,ms[k]? =some x/\m∈x.rd,fun k m=>∃x,ms[k]? =some x/\(m∈x.wr\/(N k<=m/\m<N (k+1))),a1,a2,a3,a4,a5,a6,?_⟩;have au:∀k,k<ops.size->∃o x s1,ops[k]? =some o/\ms[k]? =some x/\x.i=k/\QN P SI ops nt H N T k o x s1:=by
  intro k hk;have ho:ops.toList[k]? =some ops[k]:=by simp[hk]
  obtain⟨x,s1,b1,b2,b3⟩:=a8 k _ ho;exact⟨ops[k],x,s1,Array.getElem?_eq_getElem hk,b1,by omega,b3⟩
 have Mu:∀k,k<ops.size->∀o x s1,QN P SI ops nt H N T k o x s1->∃dr dw,Mk ⟨H k,N k,N k,[],[]⟩ s1 dr dw/\
  (∀A m0 t,Qi A m0 ⟨H k,N k,N k,[],[]⟩ t->(∀q∈dr,q<m0->A q)->∃t1,gP P SI nt ops o (T k) t= .ok (T<|k+1) t1/\Ya A m0 s1 t t1 dr dw)/\(∀m,m∈x.rd↔m∈dr/\m<N k)/\(∀m,m∈x.wr↔m∈dw/\m<N k):=by
  intro k hk o x s1 hd;obtain⟨dr,dw,d1,d2⟩:=SH.gP P hl nt ops o (T k) _ _ _ ⟨Nat.le_refl _,a7 k ak⟩ hd.run;refine⟨dr,dw,d1,d2,fun m=>?_,fun m=>?_⟩
  ·rw[hd.rd,xA,d1.rd];simp
  ·rw[hd.wr,xA,d1.wr];simp
 refine⟨a7,?_,?_,?_,?_,?_,?_,?_⟩
 ·intro k hk;obtain⟨o,x,s1,_,_,_,hd⟩:=au k hk;obtain⟨dr,dw,d1,_⟩:=Mu k hk o x s1 hd;have:=d1.nx;rw[hd.nx] at this;exact this
 ·intro k m hk hw jt;obtain⟨o,x,s1,_,hx,_,hd⟩:=au k hk;obtain⟨dr,dw,d1,_,_,d4⟩:=Mu k hk o x s1 hd;rw[←hd.h];by_cases q:m<N k
  ·refine d1.same m q fun e=>hw ⟨_,hx,.inl<|(d4 m).2 ⟨e,q⟩⟩
  ·refine d1.sK m ?_ jt;rw[hd.nx];rcases Nat.lt_or_ge m (N<|k+1) with q2|q2
   ·exact absurd ⟨_,hx,.inr ⟨by omega,q2⟩⟩ hw
   ·exact q2
 ·intro k m hk h1 h2;obtain⟨o,x,s1,_,hx,_,hd⟩:=au k hk;exact⟨x,hx,.inr ⟨h1,h2⟩⟩
 ·rintro k m hk ⟨x',ru,hw⟩;obtain⟨o,x,s1,_,hx,_,hd⟩:=au k hk;rw[hx] at ru;cases ru;obtain⟨dr,dw,d1,_,d3,d4⟩:=Mu k hk o _ s1 hd;have Iz:=d1.nx;rw[hd.nx] at Iz;have ajQ:N k<=N (k+1):=Iz;rcases hw with hw|⟨h1,h2⟩
  ·obtain⟨e1,e2⟩:=(d4 m).1 hw;exact⟨by omega,fun _=>⟨_,hx,(d3 m).2 ⟨d1.sub m e1,e2⟩⟩⟩
  ·exact⟨h2,fun q=>by omega⟩
 ·intro k o d ho cz;have hk:k<ops.size:=(Array.getElem?_eq_some_iff.1 ho).1;obtain⟨o',x,s1,kL,hx,_,hd⟩:=au k hk;rw[ho] at kL;cases kL;obtain⟨v,hv,_⟩:=Ts (u:=T k) (fun _ _=>rfl) hd.run;rcases DX hv with⟨_,e⟩|⟨d',e1,e2,e3⟩
  ·rw[e]
  ·rw[e3,Tr.lV _ _ _ _<|Nat.lt_of_lt_of_le e2 iX,if_neg (by intro e;subst e;exact cz e1)]
 ·rintro i j m hi hj cz agx ⟨x',ru,hw⟩ ⟨y',wM,hr⟩;obtain⟨_,x,s1,_,hx,xi,hd⟩:=au i hi;obtain⟨_,y,s2,_,hy,yi,he⟩:=au j hj;rw[hx] at ru;cases ru;rw[hy] at wM;cases wM;rcases T6 hm _ (List.mem_of_getElem? hx) with q|q
  ·unfold tW at q;split at q
   ·rename_i hwr;rcases hw with hw|⟨h1,h2⟩
    ·rw[hwr] at hw;cases hw
    ·have:=aL.1 q;rw[hd.lo,hd.hi] at this;omega
   ·cases q
  ·rcases SK q _ (List.mem_of_getElem? hy) with e|e|e
   ·rw[xi,yi] at e;exact cz e
   ·unfold tV at e;simp only[Bool.and_eq_true,Bool.not_eq_true'] at e;rcases hw with hw|⟨h1,h2⟩
    ·exact Te e.1 m hw hr
    ·exact Tf e.2 m hr ⟨by rw[hd.lo];exact h1,by rw[hd.hi];exact h2⟩
   ·rw[xi,yi,agx] at e;cases e
 ·intro j o ho h' hag;have hj:j<ops.size:=(Array.getElem?_eq_some_iff.1 ho).1;obtain⟨o',x,s1,kL,hx,_,hd⟩:=au j hj;rw[ho] at kL;cases kL;obtain⟨dr,dw,d1,d2,d3,d4⟩:=Mu j hj o x s1 hd;obtain⟨t1,c1,c2⟩:=d2 (fun m=>∃x,ms[j]? =some x/\m∈x.rd) (N j) ⟨h',N j,N j,[],[]⟩
   ⟨rfl,rfl,Nat.le_refl _,fun k hk cZ=>by
    rcases cZ with cZ|cZ
    ·exact(hag k (Nat.lt_of_lt_of_le hk<|a7 j ak) cZ).symm
    ·exact absurd hk<|Nat.not_lt.2 cZ⟩ (fun q hq cF=>⟨x,hx,(d3 q).2 ⟨hq,cF⟩⟩)
  have cJ:t1.nx=N (j+1):=by rw[←c2.Cj.nx,hd.nx]
  refine⟨t1,c1,cJ,?_,?_⟩
  ·rintro m ⟨x',ru,hw⟩;rw[hx] at ru;cases ru;rw[←hd.h];have Iz:=d1.nx;rw[hd.nx] at Iz;have ajQ:N j<=N (j+1):=Iz;symm;rcases hw with hw|⟨h1,h2⟩
   ·obtain⟨e1,e2⟩:=(d4 m).1 hw;exact c2.Cj.is m (by rw[hd.nx];omega)<|.inl ⟨x,hx,(d3 m).2 ⟨d1.sub m e1,e2⟩⟩
   ·exact c2.Cj.is m (by rw[hd.nx];exact h2)<|.inr h1
  ·intro m hw jt;by_cases q:m<N j
   ·exact c2.same m q fun e=>hw ⟨_,hx,.inl<|(d4 m).2 ⟨e,q⟩⟩
   ·refine c2.sK m ?_ jt;rw[hd.nx];rcases Nat.lt_or_ge m (N<|j+1) with q2|q2
    ·exact absurd ⟨_,hx,.inr ⟨by omega,q2⟩⟩ hw
    ·exact q2
end
end Go.Rn
namespace Go.Rn
open Go.RowKit
variable {ρ:aw} {w:World} {t:Tr AV} {listed:Array Bool} {j:Nat} {a:Act}
section
variable {P:Program} {B:aJ} {SI:aO} {ops:Array Oper} {nt:Nat} {H:Nat->Tr ae} {N:Nat->Nat} {T:Nat->Tr AV} {Rd Wr:Nat->Nat->Prop}
def jS(listed:Array Bool)(i:Nat):Prop:=listed.getD i false=true
def Cut(n:Nat)(W:Nat->Prop)(D:Nat->Prop)(c:Nat):Prop:=c<=n/\∀i,i<n->W i->(D i↔i<c)
theorem Tt{α:Type}{f:Nat->α}{n:Nat}{W:Nat->Prop}(hk:∀k,k<n->¬W k->f (k+1)=f k):∀(m c:Nat),c+m<=n->(∀i,c<=i->i<c+m->¬W i)->f (c+m)=f c
 |0,_,_,_=>rfl
 |m+1,c,hn,hw=>by have h1:=hk (c+m) ak<|hw (c+m) ak ak;rw[show c+(m+1)=c+m+1 from rfl,h1];exact Tt hk m c ak fun i h1 h2=>hw i h1 ak
theorem JL{α:Type}{f:Nat->α}{n:Nat}{W D:Nat->Prop}(hk:∀k,k<n->¬W k->f (k+1)=f k){c c':Nat}(h:Cut n W D c)(h':Cut n W D c'):f c=f c':=by
 have key:∀{a b:Nat},Cut n W D a->Cut n W D b->a<=b->f b=f a:=by intro a b ha hb Iu;obtain⟨m,rfl⟩:∃m,b=a+m:=⟨b - a,by omega⟩;refine Tt hk m a hb.1 fun i h1 h2 hw=>?_;have iz:i<n:=Nat.lt_of_lt_of_le h2 hb.1;have:=(ha.2 i iz hw).1<|(hb.2 i iz hw).2 h2;omega
 rcases Nat.le_total c c' with q|q
 ·exact(key h h' q).symm
 ·exact key h' h q
theorem zV(x:Text P SI ops nt H N T Rd Wr):∀{i j:Nat},i<=j->j<=ops.size->N i<=N j:=by
 intro i j mM hj;obtain⟨m,rfl⟩:∃m,j=i+m:=⟨j - i,by omega⟩;clear mM;induction m with
 |zero=>exact Nat.le_refl _
 |succ m ih=>exact Nat.le_trans (ih ak)<|x.up (i+m) ak
structure Inv (B:aJ) (ops:Array Oper) (nt:Nat) (H:Nat->Tr ae) (N:Nat->Nat) (T:Nat->Tr AV) (Wr:Nat->Nat->Prop) (vZ:aw) (LP:World) (LQ:Act) (listed:Array Bool) (a:Act) (w:World) (h:Tr ae) (t:Tr AV) (ρ:aw):Prop where
 rel:Rel B ρ h w
 tr:TR ρ nt t a.tmps
 le:vZ.le ρ
 new:∀m,m<top->ρ m≠vZ m->∃i,i<ops.size/\jS listed i/\N i<=m/\m<N (i+1)
 heap:∀m,m<top->∃c,Cut ops.size (fun i=>Wr i m) (jS listed) c/\h.get m=(H c).get m
 EF:∀d,∃c,Cut ops.size (fun i=>∃o,ops[i]? =some o/\o.dst=some d) (jS listed) c/\t.get d=(T c).get d
 below:cP B LP w
 defers:a.defers=LQ.defers
 closed:∀(j:Nat) (o:Oper) (e:Edge),ops[j]? =some o->jS listed j->e∈o.after->Region.binds .any e=true->jS listed e.on
theorem GN(hj:j<listed.size)(i:Nat):jS (listed.setIfInBounds j true) i↔i=j\/jS listed i:=by
 unfold jS;simp only[Array.getD_eq_getD_getElem?];by_cases e:i=j
 ·subst e;rw[Array.getElem?_setIfInBounds_self_of_lt hj];simp
 ·rw[Array.getElem?_setIfInBounds_ne<|Ne.symm e];simp[e]
theorem OI(AX:Li ops)(x:Text P SI ops nt H N T Rd Wr)(hc:fR P B SI)(hl:∀t a,SH<|SI t a)(iX:nt<=top){vZ:aw}(hg:gk vZ)(l7:dJ (N 0) (N ops.size) vZ){LP:World}{LQ:Act}{o:Oper}(hs:listed.size=ops.size){h:Tr ae}(inv:Inv B ops nt H N T Wr vZ LP LQ listed a w h t ρ)(ho:ops[j]? =some o)(hj:listed.getD j true=false)(WR:∀e∈o.after,Region.binds .any e=true->listed.getD e.on false=true)(b:Frame)(k:List Item)(cs:List Frame)(rest:List Nat):
 ∃a' w' h' t' gJ,Inv B ops nt H N T Wr vZ LP LQ (listed.setIfInBounds j true) a' w' h' t' gJ/\Steps P (lone (b.atR a<|.inRegion ops (j::rest)::k) cs w) (lone (b.atR a'<|.inRegion ops rest::k) cs w'):=by
 have AY:j<ops.size:=(Array.getElem?_eq_some_iff.1 ho).1;have FQ:¬jS listed j:=by unfold jS;rw[Array.getD_eq_getD_getElem?,Array.getElem?_eq_getElem ak] at hj ⊢;simp at hj ⊢;exact hj
 have Ye:=aaD AX.Xq (jS listed) inv.closed;have ordered:∀i,i≠j->loose (Region.before ops) i j=false->(jS listed i↔i<j):=by
  intro i mM gI;unfold loose at gI;simp only[Bool.not_eq_false',Bool.or_eq_true] at gI;rcases gI with q|q
  ·obtain⟨h1,h2,_⟩:=Ye i i j (Nat.le_refl _) q;exact⟨fun hd=>absurd (h2 hd) FQ,fun e=>by omega⟩
  ·obtain⟨h1,_,h3⟩:=Ye j j i (Nat.le_refl _) q;exact⟨fun _=>h1,fun _=>h3 fun o' e kL hm hb=>by rw[ho] at kL;cases kL;exact WR e hm hb⟩
 have agy:∀i,loose (Region.before ops) i j=loose (Region.before ops) j i:=by intro i;unfold loose;rw[Bool.or_comm]
 have cutAt:∀(W:Nat->Prop),(∀i,i<ops.size->W i->i≠j->loose (Region.before ops) i j=false)->Cut ops.size W (jS listed) j:=by
  intro W hW;refine⟨Nat.le_of_lt AY,fun i hi hw=>?_⟩;by_cases e:i=j
  ·subst e;exact⟨fun hd=>absurd hd FQ,fun q=>absurd q<|Nat.lt_irrefl _⟩
  ·exact ordered i e<|hW i hi hw e
 have VJ:∀(W:Nat->Prop),(∀i,i<ops.size->W i->i≠j->loose (Region.before ops) i j=false)->Cut ops.size W (jS<|listed.setIfInBounds j true) (j+1):=by
  intro W hW;refine⟨AY,fun i hi hw=>?_⟩;rw[GN ak];by_cases e:i=j
  ·subst e;exact⟨fun _=>Nat.lt_succ_self _,fun _=>.inl rfl⟩
  ·have:=ordered i e<|hW i hi hw e;constructor
   ·rintro (q|q)
    ·exact absurd q e
    ·have:=this.1 q;omega
   ·intro q;exact .inr<|this.2 ak
 have VK:∀(W:Nat->Prop) (c:Nat),¬W j->Cut ops.size W (jS listed) c->Cut ops.size W (jS<|listed.setIfInBounds j true) c:=by
  intro W c hW Yf;refine⟨Yf.1,fun i hi hw=>?_⟩;rw[GN ak];have mM:i≠j:=by intro e;subst e;exact hW hw
  rw[←Yf.2 i hi hw];exact⟨fun q=>q.resolve_left mM,.inr⟩
 have VL:∀i m,i<ops.size->i≠j->Wr i m->Rd j m->loose (Region.before ops) i j=false:=by
  intro i m hi mM hw hr;cases q:loose (Region.before ops) i j with
  |false=>rfl
  |true=>exact absurd hr<|x.apart i j m hi AY mM q hw
 have anM:∀m,m<N j->m<top:=fun m hm=>Nat.lt_of_lt_of_le hm<|x.top j ak;have ahV:∀m,m<top->Rd j m->h.get m=(H j).get m:=by intro m hm hr;obtain⟨c,jK,wR⟩:=inv.heap m hm;rw[wR];exact JL (f:=fun c=>(H c).get m) (fun k hk hw=>x.mX k m hk hw hm) jK<|cutAt _ fun i hi hw mM=>VL i m hi mM hw hr
 have ahW:∀d∈o.looksAt ops,(T j).get d=t.get d:=by
  intro d hd;obtain⟨c,jK,wR⟩:=inv.EF d;rw[wR];refine JL (f:=fun c=>(T c).get d) (fun k hk hw=>?_) (cutAt _ ?_) jK
  ·have dm:ops[k]? =some ops[k]:=Array.getElem?_eq_getElem hk;exact x.slot k _ d dm fun e=>hw ⟨_,dm,e⟩
  ·rintro i hi ⟨y,hy,IA⟩ mM;exact AX.EF i j y o d mM hy ho IA<|.inl hd
 obtain⟨t1,c1,c2,c3,c4⟩:=x.again j o ho h ahV;obtain⟨v,v1,v2⟩:=Ts ahW c1;obtain⟨u1,RB⟩:∃u1,jk nt t o.dst v=some u1:=by
  rcases DX v1 with⟨e,_⟩|⟨d,e,hd,_⟩
  ·rw[e];exact⟨t,rfl⟩
  ·rw[e];refine⟨t.put d<|some v,?_⟩;show @Bool.rec (fun _=>Option<|Tr AV) none (some<|t.put d<|some v) (Nat.blt d nt)=_;rw[zM,if_pos hd]
 have qY:=v2 u1 RB;have hNj:N j<=N (j+1):=x.up j AY;have bG:dJ (N j) (N<|j+1) ρ:=by
  intro m h1 h2 jt;have e0:vZ m=none:=l7 m (Nat.le_trans (zV x (Nat.zero_le j) ak) h1) (Nat.lt_of_lt_of_le h2<|zV x AY<|Nat.le_refl _) jt;by_cases e:ρ m=vZ m
  ·rw[e];exact e0
  ·exfalso;obtain⟨i,hi,RC,p1,p2⟩:=inv.new m jt e;have mM:i≠j:=by intro q;subst q;exact FQ RC
   rcases Nat.lt_or_ge i j with q|q
   ·have:=zV x (show i+1<=j from q) ak;omega
   ·have:=zV x (show j+1<=i from by omega) ak;omega
 have ay:At B ρ ⟨h,N j,N j,[],[]⟩ nt t w a:=⟨inv.tr,inv.rel,hg.mono inv.le,iX,⟨Nat.le_refl _,x.top j ak⟩⟩;obtain⟨σ,a',w',g1,g2,g3,g4,g5⟩:=UN hc hl ho ay (by rw[c2];exact bG) qY b k cs rest;rw[c2] at g1;refine⟨a',w',t1.h,u1,σ,⟨g2.rel,g2.tr,aw.le_trans inv.le g1.le,?_,?_,?_,inv.below.trans g4,g3.trans inv.defers,?_⟩,g5⟩
 ·intro m jt hm;by_cases e:ρ m=vZ m
  ·by_cases q:N j<=m/\m<N (j+1)
   ·exact⟨j,AY,(GN ak j).2<|.inl rfl,q.1,q.2⟩
   ·exact absurd ((g1.out m jt q).trans e) hm
  ·obtain⟨i,hi,RC,p⟩:=inv.new m jt e;exact⟨i,hi,(GN ak i).2<|.inr RC,p⟩
 ·intro m hm;by_cases q:Wr j m
  ·refine⟨j+1,VJ _ fun i hi hw mM=>?_,c3 m q⟩;obtain⟨w1,w2⟩:=x.wrote j m AY q;by_cases e:m<N j
   ·exact VL i m hi mM hw<|w2 e
   ·obtain⟨y1,y2⟩:=x.wrote i m hi hw;have him:m<N i:=by
     rcases Nat.lt_or_ge i j with r|r
     ·have:=zV x (show i+1<=j from r) ak;omega
     ·have:=zV x (show j+1<=i from by omega) ak;omega
    cases yW:loose (Region.before ops) i j with
    |false=>rfl
    |true=>rw[agy] at yW;exact absurd (y2 him)<|x.apart j i m AY hi (Ne.symm mM) yW q
  ·obtain⟨c,jK,wR⟩:=inv.heap m hm;exact⟨c,VK _ c q jK,(c4 m q hm).trans wR⟩
 ·intro d;by_cases q:o.dst=some d
  ·refine⟨j+1,VJ _ fun i hi hw mM=>?_,?_⟩
   ·obtain⟨y,hy,IA⟩:=hw;exact AX.EF i j y o d mM hy ho IA<|.inr q
   ·rcases DX v1 with⟨e,_⟩|⟨d1,e,hd,e3⟩
    ·rw[e] at q;cases q
    ·rw[q] at e;cases e;rcases DX RB with⟨e,_⟩|⟨d2,e,Mv,e4⟩
     ·rw[e] at q;cases q
     ·rw[q] at e;cases e;rw[e3,e4,Tr.lV _ _ _ _<|Nat.lt_of_lt_of_le hd iX,Tr.lV _ _ _ _<|Nat.lt_of_lt_of_le hd iX,if_pos rfl,if_pos rfl]
  ·obtain⟨c,jK,wR⟩:=inv.EF d;refine⟨c,VK _ c (fun hw=>?_) jK,?_⟩
   ·obtain⟨y,hy,IA⟩:=hw;rw[ho] at hy;cases hy;exact q IA
   ·rw[←wR];rcases DX RB with⟨_,e⟩|⟨d2,e,Mv,e4⟩
    ·rw[e]
    ·rw[e4,Tr.lV _ _ _ _<|Nat.lt_of_lt_of_le Mv iX,if_neg (by intro r;subst r;exact q e)]
 ·intro j' o' e kL hd hm hb;rw[GN ak] at hd ⊢;rcases hd with rfl|hd
  ·rw[ho] at kL;cases kL;exact .inr<|WR e hm hb
  ·exact .inr<|inv.closed j' o' e kL hd hm hb
theorem NV(n i:Nat):¬jS (Array.replicate n false) i:=by
 unfold jS;rw[Array.getD_eq_getD_getElem?];by_cases h:i<n
 ·simp[h]
 ·simp[h]
theorem aa8(bT:P.follows .mixedOrders=true)(AX:Li ops)(hc:fR P B SI)(hl:∀t a,SH<|SI t a){id:Nat}{t1:Tr AV}{s s1:AS}(ay:At B ρ s nt t w a)(hf:dJ s.nx s1.nx ρ)(h:qD P SI nt ops t s= .ok t1 s1)(b:Frame)(k:List Item)(cs:List Frame):
 Fh P B ρ s s1 nt t1 w a (lone (b.atR a<|.code (.region id ops true)::k) cs w) (fun a' w'=>lone (b.atR a' k) cs w'):=by
 obtain⟨⟨t',ms⟩,s',h1,h2⟩:=M.aR (show((nu P SI nt ops ops.toList 0 t).bind fun x=>aF (qL (Region.before ops) x.2 x.2) <| M.pure x.1) s= .ok t1 s1 from h);obtain⟨h3,h4⟩:=cX h2;obtain⟨rfl,rfl⟩:=bH h4;obtain⟨f',H,N,T,Rd,Wr,a1,a2,a3,a4,a5,a6,x⟩:=aeK hl ay.nt ay.cG h1 h3;have l7:dJ (N 0) (N ops.size) ρ:=by rw[a2,a5];exact hf
 let w1:World:={w with drawn:=w.drawn+1};have ajR:Rel B ρ s.h w1:=ay.rel.Fg<|gX.drew w;have ajS:Inv B ops nt H N T Wr ρ w a (Array.replicate ops.size false) a w1 s.h t ρ:=by refine⟨ajR,ay.tr,aw.le_refl ρ,fun m _ hm=>absurd rfl hm,fun m _=>⟨0,⟨Nat.zero_le _,fun i _ _=>⟨fun q=>absurd q<|NV _ _,fun q=>absurd q<|Nat.not_lt_zero _⟩⟩,by rw[a1]⟩,fun d=>⟨0,⟨Nat.zero_le _,fun i _ _=>⟨fun q=>absurd q<|NV _ _,fun q=>absurd q<|Nat.not_lt_zero _⟩⟩,by rw[a3]⟩,(gX.drew w).below ay.rel.size,rfl,fun j o e _ q=>absurd q<|NV _ _⟩
 obtain⟨l',a',w',z1,z2,⟨h',t',gJ,inv⟩,z3⟩:=ack (P:=P) AX.Xq b k cs (fun listed a2 w2=>∃h' t' gJ,Inv B ops nt H N T Wr ρ w a listed a2 w2 h' t' gJ)
  (fun listed a2 w2 i o rest q1 ⟨h',t',gJ,inv⟩ q3 q4 q5=>by obtain⟨a3,w3,h3,t3,ρ3,i3,st⟩:=OI AX x hc hl ay.nt ay.g l7 q1 inv q3 q4 q5 b k cs rest;exact⟨a3,w3,⟨h3,t3,ρ3,i3⟩,st⟩)
  ops.size (w.tape w.drawn<|.order b.fn id) (Array.replicate ops.size false) a w1 jI (ads _) ⟨s.h,t,ρ,ajS⟩
 have all:∀(W:Nat->Prop),Cut ops.size W (jS l') ops.size:=fun W=>⟨Nat.le_refl _,fun i hi _=>⟨fun _=>hi,fun _=>z2 i hi⟩⟩;have ajT:∀m,m<top->s1.h.get m=h'.get m:=by intro m hm;obtain⟨c,c1,c2⟩:=inv.heap m hm;rw[c2, ←a4];exact JL (f:=fun c=>(H c).get m) (fun k hk hw=>x.mX k m hk hw hm) (all _) c1
 have ajU:∀d,t'.get d=(T ops.size).get d:=by intro d;obtain⟨c,c1,c2⟩:=inv.EF d;rw[c2];refine JL (f:=fun c=>(T c).get d) (fun k hk hw=>?_) c1<|all _;have dm:ops[k]? =some ops[k]:=Array.getElem?_eq_getElem hk;exact x.slot k _ d dm fun e=>hw ⟨_,dm,e⟩
 refine⟨gJ,a',w',⟨inv.le,fun m jt hm=>?_⟩,⟨?_,inv.rel.congr ajT,ay.g.mono inv.le,ay.nt,f'⟩,inv.defers,inv.below,?_⟩
 ·by_cases e:gJ m=ρ m
  ·exact e
  ·exfalso;obtain⟨i,hi,_,p1,p2⟩:=inv.new m jt e;have q1:=zV x (Nat.zero_le i) ak;have q2:=zV x (show i+1<=ops.size from hi)<|Nat.le_refl _;exact hm ⟨by omega,by omega⟩
 ·rw[←a6];exact⟨inv.tr.1,fun i x hx=>inv.tr.2 i x (by rw[ajU i];exact hx)⟩
 ·refine .head stepR_region_draw ?_;simp only[Region.schedule,bT,Bool.true_or,if_true];exact z3
end
end Go.Rn
namespace Go.Rn
open Go.RowKit
variable {l bl N:Nat} {σ:aw} {r:Loop}
def Hc(ρ:aw):Option Nat->Option Nat->Prop
 |none,none=>True
 |some l,some b=>∃N,ρ l=some (b,N)
 |_,_=>False
theorem Hc.mono{ρ:aw}(h:ρ.le σ):∀{x y:Option Nat},Hc ρ x y->Hc σ x y
 |none,none,k=>k
 |some _,some _,⟨N,e⟩=>⟨N,h _ _ e⟩
 |none,some _,k=>k
 |some _,none,k=>k
def wu(ρ:aw):List Nat->List Deferred->Prop
 |[],l=>l=[]
 |d::ds,l=>∃b N r,l={target:=.collected b,args:= #[]}::r/\ρ d=some (b,N)/\wu ρ ds r
theorem wu.mono{ρ:aw}(h:ρ.le σ):∀{x:List Nat} {y:List Deferred},wu ρ x y->wu σ x y
 |[],_,k=>k
 |_::_,_,⟨b,N,r,e,a,d⟩=>⟨b,N,r,e,h _ _ a,d.mono h⟩
def br.fr:br->AF
 | .go fr=>fr
 | .leave fr _=>fr
def Leaves(j:Option Code)(todo:List Item):Prop:=
 match j with
 |none=>todo=[]
 |some .ret=>∃k,todo= .code .ret::k
 |some (.exit id)=>∃k,todo= .code (.exit id)::k/\exitTo id k=none
 |some (.goto l)=>∃k,todo= .code (.goto l)::k/\gotoIn l k=none
 |_=>False
def br.ok:br->Prop
 | .go _=>True
 | .leave fr j=>Leaves j fr.todo
theorem Leaves.code{j:Option Code}{todo:List Item}(h:Leaves j todo):∀c,j=some c->iD c:=by intro c e;subst e;cases c<;>first|trivial|cases h
structure Fr (ρ:aw) (af:AF) (b:Frame) (a:Act):Prop where
 fn:b.fn=af.fn
 kind:b.kind= .normal
 round:Hc ρ af.round b.roundOf
 defs:wu ρ af.defers a.defers
 ok:jz af.todo
def ma(P:Program)(B:aJ)(ρ:aw)(s s1:AS)(w:World)(af:AF)(b:Frame)(cs:List Frame)(m:Machine)(x:br):Prop:=∃σ a' w',Ext s.nx s1.nx ρ σ/\At B σ s1 af.nt x.fr.tmps w' a'/\wu σ x.fr.defers a'.defers/\cP B w w'/\(x.fr.fn=af.fn/\x.fr.nt=af.nt/\x.fr.round=af.round)/\jz x.fr.todo/\x.ok/\Steps P m (lone (b.atR a' x.fr.todo) cs w')
section
variable {P:Program} {B:aJ} {ρ:aw} {w:World} {s s1:AS} {SI:aO} {b:Frame} {a:Act} {cs:List Frame}
theorem DG(hb:w.heap[l]? =some (.loop r)):(Instr.getLoop l).run P w= .ok r w:=by simp[Instr.getLoop,getObj,Sem.run,hb]
theorem Ng{o:Obj}(hb:w.heap[l]? =some (.loop r)):(setObj l o).run P w= .ok () {w with heap:=w.heap.setIfInBounds l o}:=by simp[setObj,Sem.run,hb]
theorem DK{o:ae}(h:getLoop l s= .ok o s1):bw l s= .ok o s1/\∃st bS fn t nt ps aa bb d,o= .loop st bS fn t nt ps aa bb d:=by
 unfold getLoop at h;obtain⟨o',s2,h1,h2⟩:=M.aR h;split at h2
 ·obtain⟨rfl,rfl⟩:=bH h2;exact⟨h1,_,_,_,_,_,_,_,_,_,rfl⟩
 ·cases h2
theorem OJ{st bq:LoopState}{bS Hx:Option Code}{fn nt d:Nat}{t:Tr AV}{ps:List Tmp}{aa bb:Code}{u:Unit}{s2:AS}(fi:bE s)(r:Rel B ρ s.h w)(hg:bw l s= .ok (.loop st bS fn t nt ps aa bb d) s2)(hl:ρ l=some (bl,N))(dm:∀c,Hx=some c->iD c)(h:bM l (some<|.loop bq Hx fn t nt ps aa bb d) s2= .ok u s1):
 s1.nx=s.nx/\∃q:Loop,w.heap[bl]? =some (.loop q)/\q.state=st/\q.pending=bS/\q.fn=fn/\TR ρ nt t q.tmps/\q.params=ps.toArray/\q.assign=aa/\q.body=bb/\nt<=top/\G8 bS aa bb/\Rel B ρ s1.h {w with heap:=w.heap.setIfInBounds bl<|.loop {q with state:=bq,pending:=Hx}}/\cP B w {w with heap:=w.heap.setIfInBounds bl<|.loop {q with state:=bq,pending:=Hx}}:=by
 obtain⟨hx,kh,hh,cJ⟩:=fY hg;have ht:l<top:=Nat.lt_of_lt_of_le hx fi.nx;obtain⟨o',hb,hO,hB⟩:=r.block ht kh hl;obtain⟨ta,db,M,rfl,yZ,iX,hd,gI⟩:=hO;obtain⟨_,_,_,e1,e2⟩:=jy h;obtain⟨g3,g4⟩:=DJ (o':=.loop {state:=bq,pending:=Hx,fn:=fn,tmps:=ta,params:=ps.toArray,assign:=aa,body:=bb,defers:=db}) hb;refine⟨by rw[e2,cJ],_,hb,rfl,rfl,rfl,yZ,rfl,rfl,rfl,iX,gI,?_,g3.below<|hB rfl⟩;rw[e1,hh];exact r.put ht kh rfl rfl hl rfl g3 g4 ⟨ta,db,M,rfl,yZ,iX,hd,dm,gI.assign,gI.body⟩
theorem SZ{p:Option Code}(fi:bE s)(r:Rel B ρ s.h w)(hl:ρ l=some (bl,N))(h:lf l s= .ok p s1):
 s1.nx=s.nx/\(∀c,p=some c->iD c)/\∃w',(Instr.endLoop bl).run P w= .ok p w'/\Rel B ρ s1.h w'/\cP B w w':=by
 unfold lf at h;obtain⟨o,s2,h1,h2⟩:=M.aR h;obtain⟨h3,st,bS,fn,t,nt,ps,aa,bb,d,rfl⟩:=DK h1;obtain⟨h4,h5⟩:=cX h2;obtain⟨u,s3,h6,h7⟩:=M.aR h5;obtain⟨rfl,rfl⟩:=bH h7;have kh:=(fY h3);have dm:∀c,p=some c->iD c:=by obtain⟨o',hb,hO,_⟩:=r.block (Nat.lt_of_lt_of_le kh.1 fi.nx) kh.2.1 hl;obtain⟨_,_,_,_,_,_,_,gI⟩:=hO;exact gI.bS
 obtain⟨e1,q,e2,e3,e4,_,_,_,_,_,_,_,e5,e6⟩:=OJ fi r h3 hl dm h6;refine⟨e1,dm,_,?_,e5,e6⟩;have cz:(q.state == LoopState.busy)=false:=by rw[e3];cases st<;>first|rfl|cases h4
 simp only[Instr.endLoop,Sem.run_bind,DG e2,Result.andThen_ok,cz,Bool.false_eq_true,if_false,Ng e2,Sem.run_pure,e4]
theorem aaa{g:Operand}{ps:Array Tmp}{assign body:Code}{k:List Item}{mark:List Deferred}{LR:World}{R:Value->World->Prop}(he:(Instr.enterLoop b.fn a.tmps ps assign body b.roundOf).run P w= .ok (l,mark) LR)(h:jo P ((do let d ←Deferred.ofValue (a.eval g) #[.func (.yield l) #[] #[]];invoke d.target d.args:Sem Next).run P LR) R):
 ∃v w',R v w'/\Steps P (lone (b.atR a<|.code (.rangeFunc g ps assign body)::k) cs w) (lone (b.atR {a with defers:=mark++a.defers}<|.endRangeFunc l::k) cs w'):=by
 have FT:=Frame.eval_atR b {a with defers:=mark++a.defers}<|.inRangeFunc l::k;simp only[Frame.atR] at FT;have kz:(do let d ←resolve ({tmps:=a.tmps,defers:=mark++a.defers}:Act).eval {callee:=.value g,args:= #[.const<|.func (.yield l) #[] #[]],argTypes:= #[]} 0;invoke d.target d.args:Sem Next)=
  (do let d ←Deferred.ofValue (a.eval g) #[.func (.yield l) #[] #[]];invoke d.target d.args:Sem Next):=by
  have e1:({tmps:=a.tmps,defers:=mark++a.defers}:Act).eval g=a.eval g:=by cases g<;>rfl
  have e2:(#[Operand.const<|Value.func (Fn.yield l) #[] #[]]:Array Operand).map ({tmps:=a.tmps,defers:=mark++a.defers}:Act).eval= #[Value.func (Fn.yield l) #[] #[]]:=by simp[Act.eval]
  simp only[resolve,e1,e2]
 generalize hr:(do let d ←Deferred.ofValue (a.eval g) #[.func (.yield l) #[] #[]];invoke d.target d.args:Sem Next).run P LR=res at h;rw[←kz] at hr;have Ln:stepG P true {frame:=b.atR a<|.code (.rangeFunc g ps assign body)::k,callers:=cs,status:=.running,dying:=none} w=
  GStep.after (seen P b.fn ((Instr.enterLoop b.fn a.tmps ps assign body b.roundOf).runT P w #[]).2) (stepG.apply P true (b.atR {a with defers:=mark++a.defers}<|.inRangeFunc l::k) cs none (do let d ←resolve ({tmps:=a.tmps,defers:=mark++a.defers}:Act).eval {callee:=.value g,args:= #[.const<|.func (.yield l) #[] #[]],argTypes:= #[]} 0;invoke d.target d.args) LR):=by
  simp only[stepG,stepG.exec,Frame.atR,Sem.runT_eq,he,FT]
 unfold jo at h;split at h
 ·rename_i v w';refine⟨v,w',h,.one<|step_lone_go ?_⟩;rw[Ln,GStep.bare_after, ←finish_atR_inRangeFunc l v];simp[stepG.apply,hr]
 ·rename_i w';refine⟨undef,w',h,.one<|step_lone_go ?_⟩;rw[Ln,GStep.bare_after, ←finish_atR_inRangeFunc l undef];simp[stepG.apply,hr]
 ·rename_i f args w';obtain⟨e,nE,fr,⟨v,rfl,hR⟩,B1,ch,PJ⟩:=h<|b.atR {a with defers:=mark++a.defers} (.inRangeFunc l::k)::cs;have B2:step P (lone (b.atR a<|.code (.rangeFunc g ps assign body)::k) cs w)= .next (lone (Frame.enter P f args .normal) (b.atR {a with defers:=mark++a.defers} (.inRangeFunc l::k)::cs) w'):=step_lone_go (by rw[Ln,GStep.bare_after];simp[stepG.apply,hr,Frame.atR])
  refine⟨v,nE,hR,.head B2<|Steps.trans B1<|.one ?_⟩;rw[←finish_atR_inRangeFunc l v];exact step_leave_returned PJ
 ·rename_i l' f tmps aeL ahX w';obtain⟨v,nE,hR,B1⟩:=h (b.atR {a with defers:=mark++a.defers}<|.inRangeFunc l::k) cs;have B2:step P (lone (b.atR a<|.code (.rangeFunc g ps assign body)::k) cs w)= .next (lone (Frame.round l' f tmps aeL ahX .normal) (b.atR {a with defers:=mark++a.defers} (.inRangeFunc l::k)::cs) w'):=step_lone_go (by rw[Ln,GStep.bare_after];simp[stepG.apply,hr,Frame.atR])
  refine⟨v,nE,hR,.head B2 ?_⟩;rw[←finish_atR_inRangeFunc l v];exact B1
 ·cases h
end
end Go.Rn
namespace Go.Rn
open Go.RowKit
variable {t:Tr AV} {ps:Array Tmp} {k:List Item} {body assign:Code} {af:AF} {x:br} {nt fn:Nat}
section
variable {P:Program} {B:aJ} {ρ:aw} {w:World} {s s1:AS} {SI:aO} {b:Frame} {a:Act} {cs:List Frame}
theorem DP(bG:Fr ρ af b a)(ay:At B ρ s af.nt af.tmps w a)(h1:x.fr.tmps=af.tmps)(h2:x.fr.defers=af.defers)(h3:x.fr.fn=af.fn/\x.fr.nt=af.nt/\x.fr.round=af.round)(h4:jz x.fr.todo)(h5:x.ok)(h6:Steps P (lone (b.atR a af.todo) cs w)<|lone (b.atR a x.fr.todo) cs w):ma P B ρ s s w af b cs (lone (b.atR a af.todo) cs w) x:=⟨ρ,a,w,Ext.refl _ _ _,by rw[h1];exact ay,by rw[h2];exact bG.defs,cP.refl _ _,h3,h4,h5,h6⟩
theorem T8{fr:AF}(bG:Fr ρ af b a)(hx:fr={af with tmps:=t,todo:=k})(hk:jz k)(h:Fh P B ρ s s1 af.nt t w a (lone (b.atR a af.todo) cs w) fun a' w'=>lone (b.atR a' k) cs w'):ma P B ρ s s1 w af b cs (lone (b.atR a af.todo) cs w)<|.go fr:=by subst hx;obtain⟨σ,a',w',e1,e2,e3,e4,e5⟩:=h;exact⟨σ,a',w',e1,e2,by rw[e3];exact bG.defs.mono e1.le,e4,⟨rfl,rfl,rfl⟩,hk,trivial,e5⟩
theorem aeM(ay:At B ρ s nt t w a)(h1:ρ s.nx=none)(h2:ρ (s.nx+1)=none)(l1:s.nx<top)(l2:s.nx+1<top)(gI:G8 none assign body):
 ∃σ,Ext s.nx (s.nx+2) ρ σ/\σ s.nx=some (w.heap.size,0)/\σ (s.nx+1)=some (w.heap.size+1,0)/\
  (Instr.enterLoop fn a.tmps ps assign body none).run P w= .ok (w.heap.size+1,[{target:=.collected w.heap.size,args:= #[]}]) {w with heap:=(w.heap.push<|.deferred<|some []).push<|.loop {state:=.ready,pending:=none,fn,tmps:=a.tmps,params:=ps,assign,body,defers:=w.heap.size}}/\
  Rel B σ ((s.h.put s.nx<|some .defs).put (s.nx+1)<|some<|.loop .ready none fn t nt ps.toList assign body s.nx) {w with heap:=(w.heap.push<|.deferred<|some []).push<|.loop {state:=.ready,pending:=none,fn,tmps:=a.tmps,params:=ps,assign,body,defers:=w.heap.size}}/\
  cP B w {w with heap:=(w.heap.push<|.deferred<|some []).push<|.loop {state:=.ready,pending:=none,fn,tmps:=a.tmps,params:=ps,assign,body,defers:=w.heap.size}}:=by
 have r1:=ay.rel.new (n:=s.nx) (o:=.defs) (o':=.deferred<|some []) (N:=0) l1 h1 rfl rfl;have uQ:eQ ρ s.nx (w.heap.size,0) (s.nx+1)=none:=by rw[gM ρ _ ak];exact h2
 have HR:ρ.le<|eQ ρ s.nx (w.heap.size,0):=oD h1;have LU:(eQ ρ s.nx (w.heap.size,0)).le<|eQ (eQ ρ s.nx (w.heap.size,0)) (s.nx+1) (w.heap.size+1,0):=oD uQ;have lv:({w with heap:=w.heap.push<|.deferred<|some []}:World).heap.size=w.heap.size+1:=by simp
 have r2:=r1.new (n:=s.nx+1) (o:=.loop .ready none fn t nt ps.toList assign body s.nx) (o':=.loop {state:=.ready,pending:=none,fn,tmps:=a.tmps,params:=ps,assign,body,defers:=w.heap.size}) (N:=0) l2 uQ rfl (by rw[lv];exact⟨a.tmps,w.heap.size,0,by simp,(ay.tr.mono HR).mono LU,ay.nt,LU _ _<|iQ _ _ _,gI⟩);rw[lv] at r2;refine⟨_,⟨aw.le_trans HR LU,fun k _ hk=>?_⟩,LU _ _<|iQ _ _ _,iQ _ _ _,?_,r2,?_⟩
 ·rw[gM _ _ ak,gM _ _ ak]
 ·simp only[Instr.enterLoop,Sem.run_bind,newObj,Sem.run,Result.andThen_ok,Sem.run_pure];simp
 ·exact((gX.alloc w _).trans<|gX.alloc _ _).below ay.rel.size
theorem aeN{l0 bl N:Nat}{st:LoopState}{bS:Option Code}{f0 FV d0:Nat}{t0:Tr AV}{FW:List Tmp}{a0 b0:Code}{s2:AS}(ay:At B ρ s nt t w a)(h1:ρ s.nx=none)(l1:s.nx<top)(gI:G8 none assign body)(hg:bw l0 s= .ok (.loop st bS f0 t0 FV FW a0 b0 d0) s2)(hl:ρ l0=some (bl,N)):
 ∃σ w',Ext s.nx (s.nx+1) ρ σ/\(∃bb M,σ s.nx=some (bb,M)/\(Instr.enterLoop fn a.tmps ps assign body<|some bl).run P w= .ok (bb,[]) w')/\Rel B σ (s.h.put s.nx<|some<|.loop .ready none fn t nt ps.toList assign body d0) w'/\cP B w w':=by
 obtain⟨hx,kh,hh,cJ⟩:=fY hg;have ht:l0<top:=Nat.lt_of_lt_of_le hx ay.cG.nx;obtain⟨o',hb,hO,hB⟩:=ay.rel.block ht kh hl;obtain⟨ta,db,M,rfl,yZ,iX,hd,_⟩:=hO;have HR:ρ.le<|eQ ρ s.nx (w.heap.size,0):=oD h1;have r1:=ay.rel.new (n:=s.nx) (o:=.loop .ready none fn t nt ps.toList assign body d0) (o':=.loop {state:=.ready,pending:=none,fn,tmps:=a.tmps,params:=ps,assign,body,defers:=db}) (N:=0) l1 h1 rfl ⟨a.tmps,db,M,by simp,ay.tr.mono HR,ay.nt,HR _ _ hd,gI⟩;refine⟨_,_,Ext.mK h1,⟨w.heap.size,0,iQ _ _ _,?_⟩,r1,(gX.alloc w _).below ay.rel.size⟩;simp only[Instr.enterLoop,Sem.run_bind,DG hb,Result.andThen_ok,Sem.run_pure,newObj,Sem.run]
theorem aab{p:Option Code}(hp:∀c,p=some c->iD c)(hk:jz k):jz<|andThen p k:=by
 cases p with
 |none=>exact hk
 |some c=>exact .cons (hp c rfl) hk
theorem Tu(p:Option Code)(k:List Item):(p.map Item.code).toList++k=andThen p k:=by cases p<;>rfl
theorem acn{f:Operand}(hc:fR P B SI)(hl:∀t a,SH<|SI t a)(bG:Fr ρ af b a)(ay:At B ρ s af.nt af.tmps w a)(hf:dJ s.nx s1.nx ρ)(oX:af.todo= .code (.rangeFunc f ps assign body)::k)(h:vE f ps.toList assign body SI af.fn af.tmps af.nt af.defers af.round k s= .ok x s1):ma P B ρ s s1 w af b cs (lone (b.atR a af.todo) cs w) x:=by
 have EN:iD assign/\iD body:=by have:=bG.ok;rw[oX] at this;exact this.head
 have gI:G8 none assign body:=⟨(fun c e=>by cases e),EN.1,EN.2⟩;have hk:jz k:=by have:=bG.ok;rw[oX] at this;exact this.tail
 unfold vE at h;cases hr:af.round with
 |none=>
  rw[hr] at h;have nR:=bG.round;rw[hr] at nR;have IB:b.roundOf=none:=by
   cases e:b.roundOf with
   |none=>rfl
   |some _=>rw[e] at nR;cases nR
  obtain⟨df,s2,h1,h⟩:=M.aR h;obtain⟨l,s3,h2,h⟩:=M.aR h;obtain⟨g,h3,h⟩:=bu h;obtain⟨y,s4,h4,h⟩:=M.aR h;obtain⟨p,s5,h5,h⟩:=M.aR h;obtain⟨rfl,rfl⟩:=bH h;obtain⟨t1,rfl,rfl⟩:=vw h1;obtain⟨t2,rfl,rfl⟩:=vw h2;have ju:bE {s with h:=(s.h.put s.nx<|some .defs).put (s.nx+1)<|some<|.loop .ready none af.fn af.tmps af.nt ps.toList assign body s.nx,nx:=s.nx+1+1}:=⟨by have:=ay.cG.mark;show s.mark<=s.nx+1+1;omega,t2⟩;have C4:=(SH.nr hl _ _).le ju h4;have pw:=(SH.nr hl _ _).cG ju h4;have RD:=(SH.lf _).le pw h5;have QO:s.nx+2<=s4.nx:=C4;obtain⟨σ,e1,e2,e3,e4,e5,e6⟩:=aeM (P:=P) (fn:=af.fn) (ps:=ps) ay (hf _ (Nat.le_refl _) ak ak) (hf _ ak ak ak) t1 t2 gI;have yX:VR σ g<|a.eval f:=(D8 ay.tr ay.g h3).mono e1.le;have l7:dJ (s.nx+2) s4.nx σ:=(hf.sub (Nat.le_refl _) RD).next ak e1
  have Qm:=T4 (P:=P) hc (ay.g.mono e1.le) ju e5 l7 yX (args:=[.yield<|s.nx+1]) (vs:= #[.func (.yield<|w.heap.size+1) #[] #[]]) (by simp only[az,VR];exact⟨_,_,rfl,⟨_,_,e3,rfl⟩,rfl⟩) h4;have HT:=(show(Instr.enterLoop b.fn a.tmps ps assign body b.roundOf).run P w=(Instr.enterLoop af.fn a.tmps ps assign body none).run P w by rw[bG.fn,IB]).trans e4;obtain⟨v,w',⟨τ,g1,g2,g3,g4⟩,st⟩:=aaa (cs:=cs) (k:=k) HT Qm;obtain⟨q1,q2,w5,q3,q4,q5⟩:=SZ (P:=P) pw g3 (g1.le _ _ e3) h5;have ext:Ext s.nx s4.nx ρ τ:=e1.trans ak QO g1;refine⟨τ,{a with defers:=[{target:=.collected w.heap.size,args:= #[]}]++a.defers},w5,by rw[q1];exact ext,⟨ay.tr.mono ext.le,q4,ay.g.mono ext.le,ay.nt,(SH.lf _).cG pw h5⟩,?_,(e6.trans g4).trans q5,⟨rfl,rfl,hr.symm⟩,aab q2 hk,trivial,?_⟩
  ·exact⟨w.heap.size,0,a.defers,rfl,g1.le _ _ e2,bG.defs.mono ext.le⟩
  ·rw[oX];refine Steps.trans st<|.one ?_;rw[stepR_endRangeFunc q3,Tu];rfl
 |some l0=>
  rw[hr] at h;have nR:=bG.round;rw[hr] at nR;obtain⟨bl,IB,N0,RE⟩:∃bl,b.roundOf=some bl/\∃N,ρ l0=some (bl,N):=by
   cases e:b.roundOf with
   |none=>rw[e] at nR;cases nR
   |some bl=>rw[e] at nR;exact⟨bl,rfl,nR⟩
  obtain⟨ob,s2,h1,h⟩:=M.aR h;obtain⟨yS,st0,anN,f0,t0,FV,FW,a0,b0,d0,rfl⟩:=DK h1;obtain⟨l,s3,h2,h⟩:=M.aR h;obtain⟨g,h3,h⟩:=bu h;obtain⟨y,s4,h4,h⟩:=M.aR h;obtain⟨p,s5,h5,h⟩:=M.aR h;obtain⟨rfl,rfl⟩:=bH h;obtain⟨hx,kh,hh,cJ⟩:=fY yS;have dH:bE s2:=(SH.bw _).cG ay.cG yS;obtain⟨t2,rfl,rfl⟩:=vw h2;have ju:bE {s2 with h:=s2.h.put s2.nx<|some<|.loop .ready none af.fn af.tmps af.nt ps.toList assign body d0,nx:=s2.nx+1}:=⟨by have:=dH.mark;show s2.mark<=s2.nx+1;omega,t2⟩;have C4:=(SH.nr hl _ _).le ju h4;have pw:=(SH.nr hl _ _).cG ju h4;have RD:=(SH.lf _).le pw h5;have QO:s2.nx+1<=s4.nx:=C4;obtain⟨σ,w2,e1,⟨bb,M2,e3,e4⟩,e5,e6⟩:=aeN (P:=P) (fn:=af.fn) (ps:=ps) ay (hf _ (Nat.le_refl _) ak ak) (by rw[←cJ];omega) gI yS RE;rw[←hh, ←cJ] at e5;rw[←cJ] at e1 e3;have yX:VR σ g<|a.eval f:=(D8 ay.tr ay.g h3).mono e1.le;have l7:dJ (s2.nx+1) s4.nx σ:=(show dJ s2.nx s4.nx ρ by rw[cJ];exact hf.sub (Nat.le_refl _) RD).next ak e1
  have Qm:=T4 (P:=P) hc (ay.g.mono e1.le) ju e5 l7 yX (args:=[.yield s2.nx]) (vs:= #[.func (.yield bb) #[] #[]]) (by simp only[az,VR];exact⟨_,_,rfl,⟨_,_,e3,rfl⟩,rfl⟩) h4;have HT:=(show(Instr.enterLoop b.fn a.tmps ps assign body b.roundOf).run P w=(Instr.enterLoop af.fn a.tmps ps assign body<|some bl).run P w by rw[bG.fn,IB]).trans e4;obtain⟨v,w',⟨τ,g1,g2,g3,g4⟩,st⟩:=aaa (cs:=cs) (k:=k) HT Qm;obtain⟨q1,q2,w5,q3,q4,q5⟩:=SZ (P:=P) pw g3 (g1.le _ _ e3) h5;have ext:Ext s.nx s4.nx ρ τ:=by rw[←cJ];exact e1.trans ak QO g1
  refine⟨τ,{a with defers:=[]++a.defers},w5,by rw[q1];exact ext,⟨ay.tr.mono ext.le,q4,ay.g.mono ext.le,ay.nt,(SH.lf _).cG pw h5⟩,?_,(e6.trans g4).trans q5,⟨rfl,rfl,hr.symm⟩,aab q2 hk,trivial,?_⟩
  ·exact bG.defs.mono ext.le
  ·rw[oX];refine Steps.trans st<|.one ?_;rw[stepR_endRangeFunc q3,Tu];rfl
end
end Go.Rn
namespace Go.Rn
open Go.RowKit
variable {x:br} {s2:AS} {k:List Item} {c:Code} {af:AF}
theorem aaE{P:Program}{b:Frame}{a:Act}{cs:List Frame}{w:World}:step P (lone (b.atR a<|.inScope c::k) cs w)= .next (lone (b.atR a k) cs w):=step_lone_go (by simp[stepG,stepG.exec,Frame.atR])
theorem aa9{P:Program}{b:Frame}{a:Act}{cs:List Frame}{w:World}:step P (lone (b.atR a<|.code (.scope c)::k) cs w)= .next (lone (b.atR a<|.code c:: .inScope c::k) cs w):=step_lone_go (by simp[stepG,stepG.exec,Frame.atR])
section
variable {P:Program} {B:aJ} {ρ:aw} {w:World} {s s1:AS} {SI:aO} {b:Frame} {a:Act} {cs:List Frame}
theorem aco{l bl N:Nat}{bS:Option Code}{f0 FV d0:Nat}{t0:Tr AV}{FW:List Tmp}{a0 b0:Code}{u:Unit}(fi:bE s)(r:Rel B ρ s.h w)(hl:ρ l=some (bl,N))(hg:bw l s= .ok (.loop .ready bS f0 t0 FV FW a0 b0 d0) s2)(h:bM l (some<|.loop .busy bS f0 t0 FV FW a0 b0 d0) s2= .ok u s1):
 s1.nx=s.nx/\∃w',(Instr.beginRound bl).run P w= .ok () w'/\Rel B ρ s1.h w'/\cP B w w':=by
 have kh:=fY hg;have dm:∀c,bS=some c->iD c:=by obtain⟨o',hb,hO,_⟩:=r.block (Nat.lt_of_lt_of_le kh.1 fi.nx) kh.2.1 hl;obtain⟨_,_,_,_,_,_,_,gI⟩:=hO;exact gI.bS
 obtain⟨e1,q,e2,e3,e4,_,_,_,_,_,_,_,e5,e6⟩:=OJ fi r hg hl dm h;refine⟨e1,_,?_,e5,e6⟩;subst e4;simp only[Instr.beginRound,Sem.run_bind,DG e2,Result.andThen_ok,Ng e2,e3,Sem.run_pure]
theorem Gs(bT:P.follows .mixedOrders=true)(hc:fR P B SI)(hl:∀t a,SH<|SI t a)(bG:Fr ρ af b a)(ay:At B ρ s af.nt af.tmps w a)(hf:dJ s.nx s1.nx ρ)(h:jg P SI af s= .ok x s1):ma P B ρ s s1 w af b cs (lone (b.atR a af.todo) cs w) x:=by
 obtain⟨fn,t,nt,todo,d,r⟩:=af;cases todo with
 |nil=>obtain⟨rfl,rfl⟩:=bH (show M.pure (.leave ⟨fn,t,nt,[],d,r⟩ none) s= .ok x s1 from h);exact DP bG ay rfl rfl ⟨rfl,rfl,rfl⟩ .nil rfl<|Steps.refl _ _
 |cons it k=>
  have hk:jz k:=bG.ok.tail;have qu:Kq it:=bG.ok.head;have h':(vY P it).val SI fn t nt d r k s= .ok x s1:=h;have calm:∀(l:List Item),jz l->M.pure (.go ⟨fn,t,nt,l,d,r⟩) s= .ok x s1->step P (lone (b.atR a<|it::k) cs w)= .next (lone (b.atR a l) cs w)->ma P B ρ s s1 w ⟨fn,t,nt,it::k,d,r⟩ b cs (lone (b.atR a<|it::k) cs w) x:=by intro l nf hp hs;obtain⟨rfl,rfl⟩:=bH hp;exact DP bG ay rfl rfl ⟨rfl,rfl,rfl⟩ nf trivial<|.one hs
  cases it with
  |code c=>
   cases c with
   |skip=>exact calm k hk h' stepR_skip
   |label l=>exact calm k hk h' stepR_label
   |seq p q=>exact calm (.code p:: .code q::k) (.cons qu.1<|.cons qu.2 hk) h' stepR_seq
   |cond c p q=>
    obtain⟨v,h1,h2⟩:=bu (show(aC (aK t c) fun v=>aC (xU v) fun v=>M.pure<|.go ⟨fn,t,nt,.code (@Bool.rec (fun _=>Code) q p v)::k,d,r⟩) s= .ok x s1 from h');obtain⟨y,h3,h4⟩:=bu h2;have hv:=(D8 ay.tr ay.g h1).UL h3;cases y with
    |true=>exact calm (.code p::k) (.cons qu.1 hk) h4<|stepR_cond hv
    |false=>exact calm (.code q::k) (.cons qu.2 hk) h4<|stepR_cond hv
   |block id c=>exact calm (.code c:: .inBlock id::k) (.cons qu<|.cons trivial hk) h' stepR_block
   |loop c=>exact calm (.code c:: .inLoop c::k) (.cons qu<|.cons qu hk) h' stepR_loop
   |scope c=>exact calm (.code c:: .inScope c::k) (.cons qu<|.cons qu hk) h' aa9
   |exit id=>
    have h2:EJ id SI fn t nt d r k s= .ok x s1:=h';unfold EJ at h2;cases e:exitTo id k with
    |some k'=>rw[e] at h2;exact calm k' (NO e hk) h2<|stepR_exit e
    |none=>rw[e] at h2;obtain⟨rfl,rfl⟩:=bH h2;exact DP bG ay rfl rfl ⟨rfl,rfl,rfl⟩ bG.ok ⟨k,rfl,e⟩<|Steps.refl _ _
   |goto l=>
    have h2:EK l SI fn t nt d r k s= .ok x s1:=h';unfold EK at h2;cases e:gotoIn l k with
    |some k'=>rw[e] at h2;exact calm k' (NP e hk) h2<|stepR_goto e
    |none=>rw[e] at h2;obtain⟨rfl,rfl⟩:=bH h2;exact DP bG ay rfl rfl ⟨rfl,rfl,rfl⟩ bG.ok ⟨k,rfl,e⟩<|Steps.refl _ _
   |ret=>obtain⟨rfl,rfl⟩:=bH (show M.pure (.leave ⟨fn,t,nt,.code .ret::k,d,r⟩<|some .ret) s= .ok x s1 from h');exact DP bG ay rfl rfl ⟨rfl,rfl,rfl⟩ bG.ok ⟨k,rfl⟩<|Steps.refl _ _
   |region id ops draw=>
    cases draw with
    |false=>obtain⟨t1,s2,h1,h2⟩:=M.aR (show((jl P SI nt ops ops.toList t).bind fun t=>M.pure<|.go ⟨fn,t,nt,k,d,r⟩) s= .ok x s1 from h');obtain⟨rfl,rfl⟩:=bH h2;exact T8 bG rfl hk<|abz hc hl ay hf h1 b k cs
    |true=>obtain⟨t1,s2,h1,h2⟩:=M.aR (show((qD P SI nt ops t).bind fun t=>M.pure<|.go ⟨fn,t,nt,k,d,r⟩) s= .ok x s1 from h');obtain⟨rfl,rfl⟩:=bH h2;exact T8 bG rfl hk<|aa8 bT (qu rfl) hc hl ay hf h1 b k cs
   |rangeFunc f ps p q=>exact acn hc hl bG ay hf rfl h'
   |refuse gy=>cases h'
  |inBlock id=>exact calm k hk h' stepR_inBlock
  |inScope c=>exact calm k hk h' aaE
  |inLoop c=>exact calm (.code c:: .inLoop c::k) (.cons qu<|.cons qu hk) h' stepR_inLoop
  |beginRound=>
   have h2:zT SI fn t nt d r k s= .ok x s1:=h';unfold zT at h2;cases r with
   |none=>cases h2
   |some l=>
    obtain⟨bl,IB,N0,RE⟩:∃bl,b.roundOf=some bl/\∃N,ρ l=some (bl,N):=by
     have nR:=bG.round;cases e:b.roundOf with
     |none=>rw[e] at nR;cases nR
     |some bl=>rw[e] at nR;exact⟨bl,rfl,nR⟩
    obtain⟨o,s2,h3,h4⟩:=M.aR h2;obtain⟨h5,st,bS,f0,t0,FV,FW,a0,b0,d0,rfl⟩:=DK h3;cases st<;>first|(cases h4;done)|skip
    obtain⟨u,s3,h6,h7⟩:=M.aR h4;obtain⟨rfl,rfl⟩:=bH h7;obtain⟨e1,w',e2,e3,e4⟩:=aco (P:=P) ay.cG ay.rel RE h5 h6;have dH:bE s1:=(SH.bM _ _).cG ((SH.bw _).cG ay.cG h5) h6;exact⟨ρ,a,w',by rw[e1];exact Ext.refl _ _ _,⟨ay.tr,e3,ay.g,ay.nt,dH⟩,bG.defs,e4,⟨rfl,rfl,rfl⟩,hk,trivial,.one<|stepR_beginRound IB e2⟩
  |_=>cases h'
theorem ma.Lo{fr:AF}{m:Machine}(bG:Fr ρ af b a)(h:ma P B ρ s s2 w af b cs m<|.go fr)(lu:s.nx<=s2.nx)(qq:s2.nx<=s1.nx)(k:∀(σ:aw) (a':Act) (w':World),Ext s.nx s2.nx ρ σ->Fr σ fr b a'->At B σ s2 fr.nt fr.tmps w' a'->ma P B σ s2 s1 w' fr b cs (lone (b.atR a' fr.todo) cs w') x):ma P B ρ s s1 w af b cs m x:=by obtain⟨σ,a',w',e1,e2,e3,e4,⟨e5,e6,e7⟩,e8,_,e9⟩:=h;have iY:fr.nt=af.nt:=e6;obtain⟨τ,Iy,nE,f1,f2,f3,f4,⟨f5,f6,f7⟩,f8,f9,f10⟩:=k σ a' w' e1 ⟨bG.fn.trans e5.symm,bG.kind,by have:=bG.round.mono e1.le;rw[←e7] at this;exact this,e3,e8⟩ (by rw[iY];exact e2);exact⟨τ,Iy,nE,e1.trans lu qq f1,by rw[iY] at f2;exact f2,f3,e4.trans f4,⟨f5.trans e5,f6.trans e6,f7.trans e7⟩,f8,f9,Steps.trans e9 f10⟩
theorem Gt(bT:P.follows .mixedOrders=true)(hc:fR P B SI)(hl:∀t a,SH<|SI t a):∀(n:Nat) {ρ:aw} {w:World} {s s1:AS} {a:Act} {af:AF} {x:br},Fr ρ af b a->At B ρ s af.nt af.tmps w a->dJ s.nx s1.nx ρ->
 nU P SI n af s= .ok x s1->ma P B ρ s s1 w af b cs (lone (b.atR a af.todo) cs w) x
 |0,ρ,w,s,s1,a,af,x,bG,ay,hf,h=>Gs bT hc hl bG ay hf h
 |n+1,ρ,w,s,s1,a,af,x,bG,ay,hf,h=>by
  obtain⟨y,s2,h1,h2⟩:=M.aR (show((nU P SI n af).bind fun x=> @br.rec (fun _=>M br) (nU P SI n) (fun fr j=>M.pure<|.leave fr j) x) s= .ok x s1 from h);have lu:=(SH.nU P hl n af).le ay.cG h1;have dH:=(SH.nU P hl n af).cG ay.cG h1;cases y with
  |go fr=>have sO:nU P SI n fr s2= .ok x s1:=h2;have qq:=(SH.nU P hl n fr).le dH sO;have w1:=Gt bT hc hl n bG ay (hf.sub (Nat.le_refl _) qq) h1;exact w1.Lo bG lu qq fun σ a' w' e1 Cy Cz=>Gt bT hc hl n Cy Cz (hf.next lu e1) sO
  |leave fr j=>obtain⟨rfl,rfl⟩:=bH (show M.pure (.leave fr j) s2= .ok x s1 from h2);exact Gt bT hc hl n bG ay hf h1
theorem NW(bT:P.follows .mixedOrders=true)(hc:fR P B SI)(hl:∀t a,SH<|SI t a):∀(n k:Nat) {ρ:aw} {w:World} {s s1:AS} {a:Act} {af:AF} {x:br},Fr ρ af b a->At B ρ s af.nt af.tmps w a->dJ s.nx s1.nx ρ->
 qM P SI n k af s= .ok x s1->ma P B ρ s s1 w af b cs (lone (b.atR a af.todo) cs w) x
 |0,k,ρ,w,s,s1,a,af,x,bG,ay,hf,h=>by cases h
 |n+1,k,ρ,w,s,s1,a,af,x,bG,ay,hf,h=>by
  obtain⟨y,s2,h1,h2⟩:=M.aR (show((nU P SI k af).bind fun x=> @br.rec (fun _=>M br) (fun fr=>qM P SI n (Nat.succ k) fr) (fun fr j=>M.pure<|.leave fr j) x) s= .ok x s1 from h);have lu:=(SH.nU P hl k af).le ay.cG h1;have dH:=(SH.nU P hl k af).cG ay.cG h1;cases y with
  |go fr=>have sO:qM P SI n (k+1) fr s2= .ok x s1:=h2;have qq:=(SH.qM P hl n (k+1) fr).le dH sO;have w1:=Gt (b:=b) (cs:=cs) bT hc hl k bG ay (hf.sub (Nat.le_refl _) qq) h1;exact w1.Lo bG lu qq fun σ a' w' e1 Cy Cz=>NW bT hc hl n (k+1) Cy Cz (hf.next lu e1) sO
  |leave fr j=>obtain⟨rfl,rfl⟩:=bH (show M.pure (.leave fr j) s2= .ok x s1 from h2);exact Gt bT hc hl k bG ay hf h1
end
end Go.Rn
namespace Go.Rn
open Go.RowKit
variable {x:AV} {l bl N:Nat}
section
variable {P:Program} {B:aJ} {ρ:aw} {w:World} {s s1:AS} {SI:aO}
theorem Nj{nt:Nat}(iX:nt<=top):∀{ps:List Tmp} {args:List AV} {vs:List Value} {t:Tr AV} {arr:Array Value},TR ρ nt t arr->az ρ args vs->(∀p∈ps,p<nt)->
 TR ρ nt (je ps args t) ((ps.zip vs).foldl (fun tmps (t,a)=>tmps.setIfInBounds t a) arr)
 |[],args,vs,t,arr,h,_,_=>by simpa[je] using h
 |p::ps,[],vs,t,arr,h,hv,_=>by simp only[az] at hv;subst hv;simpa[je] using h
 |p::ps,v::args,vs,t,arr,h,hv,hp=>by simp only[az] at hv;obtain⟨u,us,rfl,h1,h2⟩:=hv;simp only[je,List.zip_cons_cons,List.foldl_cons];exact Nj iX (h.set (hp p List.mem_cons_self) iX h1) h2 fun q hq=>hp q<|List.mem_cons_of_mem _ hq
theorem S0{j:Option Code}(fi:bE s)(r:Rel B ρ s.h w)(hl:ρ l=some (bl,N))(hj:∀c,j=some c->iD c)(h:endRound l j s= .ok x s1):
 s1.nx=s.nx/\x= .bool j.isNone/\∃w',(Instr.endRound bl j).run P w= .ok (.bool j.isNone) w'/\Rel B ρ s1.h w'/\cP B w w':=by
 unfold endRound at h;obtain⟨o,s2,h1,h2⟩:=M.aR h;obtain⟨h3,st,bS,fn,t,nt,ps,aa,bb,d,rfl⟩:=DK h1;obtain⟨u,s3,h4,h5⟩:=M.aR h2;obtain⟨rfl,rfl⟩:=bH h5;obtain⟨e1,q,e2,e3,e4,_,_,_,_,_,_,_,e5,e6⟩:=OJ fi r h3 hl hj h4;refine⟨e1,rfl,_,?_,e5,e6⟩;cases j<;>simp only[Instr.endRound,Sem.run_bind,DG e2,Result.andThen_ok,Ng e2,Sem.run_pure]<;>rfl
theorem acp(bT:P.follows .mixedOrders=true)(hc:fR P B SI)(hl:∀t a,SH<|SI t a){args:List AV}{vs:Array Value}(fi:bE s)(r:Rel B ρ s.h w)(hg:gk ρ)(hf:dJ s.nx s1.nx ρ)(h:BA P SI l args s= .ok x s1)(hv:az ρ args vs.toList)(C5:ρ l=some (bl,N)):jo P ((Instr.yield bl vs).run P w)<|kg B ρ s s1 w x:=by
 unfold BA at h;obtain⟨o,s2,h1,h2⟩:=M.aR h;obtain⟨h3,st,bS,fn,t,nt,ps,aa,bb,d,rfl⟩:=DK h1;obtain⟨h4,h5⟩:=cX h2;obtain⟨y,s3,h6,h7⟩:=M.aR h5;obtain⟨q1,q2⟩:=and_true.1 h4;have hlen:=eA.1 q1;have RF:∀p∈ps,p<nt:=fun p hp=>by have:=List.all_eq_true.1 q2 p hp;rw[←blt_eq];exact this
 obtain⟨hx,kh,hh,cJ⟩:=fY h3;have dH:bE s2:=(SH.bw _).cG fi h3;have cF:l<top:=Nat.lt_of_lt_of_le hx fi.nx;obtain⟨o',hb,hO,hB⟩:=r.block cF kh C5;obtain⟨ta,db,M,rfl,yZ,iX,hd,gI⟩:=hO;have PK:(Instr.yield bl vs).run P w= .ok (.round bl fn ((ps.zip vs.toList).foldl (fun tmps (t,a)=>tmps.setIfInBounds t a) ta) aa bb) w:=by
  have lv:¬(vs.size≠ps.toArray.size):=by have:=hv.length;simp at this ⊢;omega
  simp only[Instr.yield,Sem.run_bind,DG hb,Result.andThen_ok,if_neg lv,Sem.run_pure];rw[←Array.foldl_toList];simp
 rw[PK];intro c cs;cases y with
 |go fr=>cases h7
 |leave fr j=>
  have C2:endRound l j s3= .ok x s1:=h7;let b:Frame:={(default:Frame) with fn:=fn,kind:=.normal,roundOf:=some bl};let a:Act:={tmps:=(ps.zip vs.toList).foldl (fun tmps (t,a)=>tmps.setIfInBounds t a) ta,defers:=[]};have qq:=(SH.qM P hl depth 2 ⟨fn,je ps args t,nt,[.code aa,.beginRound,.code bb],[],some l⟩).le dH h6;have ju:=(SH.qM P hl depth 2 ⟨fn,je ps args t,nt,[.code aa,.beginRound,.code bb],[],some l⟩).cG dH h6;have C6:=(SH.endRound l j).le ju C2;have bG:Fr ρ ⟨fn,je ps args t,nt,[.code aa,.beginRound,.code bb],[],some l⟩ b a:=⟨rfl,rfl,⟨N,C5⟩,rfl,.cons gI.assign<|.cons trivial<|.cons gI.body .nil⟩;have ay:At B ρ s2 nt (je ps args t) w a:=⟨Nj iX yZ hv RF,by rw[hh];exact r,hg,iX,dH⟩;obtain⟨σ,a',w',e1,e2,e3,e4,_,_,e6,e7⟩:=NW (cs:=c::cs) bT hc hl depth 2 bG ay (by rw[cJ];exact hf.sub (Nat.le_refl _) C6) h6;have iY:Leaves j fr.todo:=e6;obtain⟨f1,rfl,nE,f2,f3,f4⟩:=S0 (P:=P) ju e2.rel (e1.le _ _ C5) iY.code C2;refine⟨.bool j.isNone,nE,⟨σ,by rw[f1, ←cJ];exact e1,by simp only[VR],f3,e4.trans f4⟩,?_⟩;have xZ:Frame.round bl fn ((ps.zip vs.toList).foldl (fun tmps (t,a)=>tmps.setIfInBounds t a) ta) aa bb .normal=b.atR a [.code aa,.beginRound,.code bb]:=rfl;rw[xZ];refine Steps.trans e7<|.one ?_;show step P (lone (b.atR a' fr.todo) (c::cs) w')=_;unfold Leaves at iY;split at iY
  ·rw[iY];exact stepR_round_end rfl rfl f2
  ·obtain⟨k,e⟩:=iY;rw[e];exact stepR_round_ret rfl rfl f2
  ·obtain⟨k,e,e'⟩:=iY;rw[e];exact stepR_round_exit rfl rfl e' f2
  ·obtain⟨k,e,e'⟩:=iY;rw[e];exact stepR_round_goto rfl rfl e' f2
  ·cases iY
theorem aaQ{nt:Nat}{t:Tr AV}{tmps:Array Value}{rv:ResultVar}(ht:TR ρ nt t tmps)(fi:bE s)(r:Rel B ρ s.h w)(h:Bz P t rv s= .ok x s1):
 s1.h=s.h/\s1.nx=s.nx/\bE s1/\∃v,(match rv with| .tmp t=>pure (tmps.getD t undef)| .cell a t=>do Go.loadVar t (←asAddr (tmps.getD a undef)):Sem Value).run P w= .ok v w/\VR ρ x v:=by
 cases rv with
 |tmp i=>obtain⟨hx,rfl⟩:=gT (show lift (t.get i) s= .ok x s1 from h);exact⟨rfl,rfl,fi,_,rfl,ht.2 i x hx⟩
 |cell a ty=>
  obtain⟨ad,s2,h1,h2⟩:=M.aR (show((lift (match t.get a with|some x=>addrOf x|none=>none)).bind fun a=>Rn.loadVar P ty a.1 a.2) s= .ok x s1 from h);obtain⟨h3,hs⟩:=gT h1;subst hs;cases RG:t.get a with
  |none=>rw[RG] at h3;cases h3
  |some xa=>
  rw[RG] at h3;obtain⟨b,N,h4,h5⟩:=(ht.2 a xa RG).OE h3;obtain⟨a1,a2,v,a3,a4⟩:=S5 (P:=P) fi r h2 h4;exact⟨a1,a2,(SH.loadVar P ty _ _).cG fi h2,v,by simp[h5,asAddr,a3],a4⟩
theorem Ja{nt:Nat}{t:Tr AV}{tmps:Array Value}(ht:TR ρ nt t tmps):∀{l:List ResultVar} {vs:List AV} {s s1:AS},bE s->Rel B ρ s.h w->tI P t l s= .ok vs s1->
 s1.h=s.h/\s1.nx=s.nx/\∃us,(l.mapM fun| .tmp t=>pure (tmps.getD t undef)| .cell a t=>do Go.loadVar t (←asAddr (tmps.getD a undef)):Sem<|List Value).run P w= .ok us w/\az ρ vs us
 |[],vs,s,s1,fi,r,h=>by obtain⟨rfl,rfl⟩:=bH (show M.pure [] s= .ok vs s1 from h);exact⟨rfl,rfl,[],rfl,by simp[az]⟩
 |rv::l,vs,s,s1,fi,r,h=>by
  obtain⟨v,s2,h1,h2⟩:=M.aR (show((Bz P t rv).bind fun v=>(tI P t l).bind fun vs=>M.pure<|v::vs) s= .ok vs s1 from h);obtain⟨us,s3,h3,h4⟩:=M.aR h2;obtain⟨rfl,rfl⟩:=bH h4;obtain⟨a1,a2,a3,u,a4,a5⟩:=aaQ ht fi r h1;obtain⟨b1,b2,Mw,b3,b4⟩:=Ja ht a3 (by rw[a1];exact r) h3;refine⟨b1.trans a1,b2.trans a2,u::Mw,?_,?_⟩
  ·rw[List.mapM_cons];simp only[Sem.run_bind,a4,Result.andThen_ok,b3,Sem.run_pure]
  ·simp only[az];exact⟨u,Mw,rfl,a5,b4⟩
theorem Jd{fr:Frame}{cs:List Frame}:∀{l:List Nat} {ds:List Deferred} {s s1:AS} {w:World} {u:Unit},bE s->Rel B ρ s.h w->wu ρ l ds->rP l s= .ok u s1->
 s1.nx=s.nx/\bE s1/\∃w',Rel B ρ s1.h w'/\cP B w w'/\∀(fr:Frame) (cs:List Frame),fr.mode≠ .run->fr.defers=ds->Steps P (lone fr cs w) (lone {fr with defers:=[]} cs w')
 |[],ds,s,s1,w,u,fi,r,hd,h=>by obtain⟨_,rfl⟩:=bH (show M.pure () s= .ok u s1 from h);have Mv:ds=[]:=hd;subst Mv;exact⟨rfl,fi,w,r,cP.refl _ _,fun fr cs _ e=>by rw[←e];exact Steps.refl _ _⟩
 |d::l,ds,s,s1,w,u,fi,r,hd,h=>by
  obtain⟨b,N,ds',rfl,hn,hds⟩:=hd;obtain⟨o,s2,h1,h2⟩:=M.aR (show((bw d).bind fun o=>match o with| .defs=>(bM d none).bind fun _=>rP l|_=>fail) s= .ok u s1 from h);obtain⟨hx,kh,hh,cJ⟩:=fY h1;have dH:=(SH.bw d).cG fi h1;have cF:d<top:=Nat.lt_of_lt_of_le hx fi.nx;obtain⟨o',hb,hO,hB⟩:=r.block cF kh hn;cases o with
  |defs=>
   obtain⟨u2,s3,h3,h4⟩:=M.aR h2;have ju:=(SH.bM d none).cG dH h3;obtain⟨_,_,_,i1,i2⟩:=jy h3;have hO':o'= .deferred (some []):=hO;subst hO';obtain⟨g3,g4⟩:=DJ (o':=.deferred none) hb;obtain⟨k1,_⟩:=r.WN cF kh rfl rfl hn g3;obtain⟨e1,e2,w',e3,e4,e5⟩:=Jd (fr:=fr) (cs:=cs) ju (by rw[i1,hh];exact k1) hds h4;refine⟨by rw[e1,i2,cJ],e2,w',e3,(g3.below<|hB rfl).trans e4,fun fr cs hm hdf=>?_⟩;have ahY:(Instr.takeDeferred b).run P w= .ok [] {w with heap:=w.heap.setIfInBounds b<|.deferred none}:=by simp[Instr.takeDeferred,getObj,setObj,Sem.run,hb]
   have hs:=step_collected (P:=P) (cs:=cs) hm hdf rfl ahY;exact .head hs<|e5 {fr with defers:=[]++ds'} cs hm rfl
  |_=>cases h2
end
end Go.Rn
namespace Go.Rn
open Go.RowKit
theorem T9{ρ:aw}{e:MapEntry}:∀{left:List<|AV×AV} {l:List MapEntry},dW ρ left l->e∈l->
 ∃x r l',(x,r)∈ym left/\VR ρ x.1 e.key/\VR ρ x.2 e.val/\dW ρ r l'/\l.Perm (e::l')
 |[],l,h,he=>by simp only[dW] at h;subst h;cases he
 |y::ys,l,h,he=>by
  simp only[dW] at h;obtain⟨e0,es,rfl,h1,h2,h3⟩:=h;rcases List.mem_cons.1 he with rfl|he
  ·exact⟨y,ys,es,by simp[ym],h1,h2,h3,List.Perm.refl _⟩
  ·obtain⟨x,r,l',k1,k2,k3,k4,k5⟩:=T9 h3 he;refine⟨x,y::r,e0::l',?_,k2,k3,?_,?_⟩
   ·simp only[ym,List.mem_cons,List.mem_map];exact .inr ⟨(x,r),k1,rfl⟩
   ·simp only[dW];exact⟨e0,l',rfl,h1,h2,k4⟩
   ·exact(List.Perm.cons e0 k5).trans<|List.Perm.swap e e0 l'
theorem dW.aeO{ρ:aw}{left:List<|AV×AV}(h:dW ρ left []):left=[]:=by
 cases left with
 |nil=>rfl
 |cons x xs=>simp only[dW] at h;obtain⟨e,es,h,_⟩:=h;cases h
section
variable {P:Program} {B:aJ} {ρ:aw} {w w':World} {h:Tr ae} {n m:Nat} {es left iK:List<|AV×AV} {ex:Bool} {cur iL:Option<|AV×AV} {b N:Nat}
theorem Tv{w1:World}{o:Obj}(hw:w1=w\/w1=w.drew):xY b w<|ChangeMaps.setBlock w1 b o:=by
 have h1:(ChangeMaps.setBlock w1 b o).heap=w.heap.setIfInBounds b o:=by rcases hw with rfl|rfl<;>rfl
 refine⟨?_,?_,?_,by rw[h1];simp,fun k hk=>?_⟩
 ·rcases hw with rfl|rfl<;>rfl
 ·rcases hw with rfl|rfl<;>rfl
 ·rcases hw with rfl|rfl<;>rfl
 ·rw[h1,Array.getElem?_setIfInBounds_ne ak]
theorem np.next(ty:TypeId)(u:np ρ w n m es ex left cur):∃b N,ρ n=some (b,N)/\
 ((left=[]/\(Instr.next (.pointer<|some ⟨b,0,none⟩) false ty).run P w= .ok (.tuple #[.bool false]) w)\/
 ∃x r v1 v2 w',(x,r)∈ym left/\VR ρ x.1 v1/\VR ρ x.2 v2/\(Instr.next (.pointer<|some ⟨b,0,none⟩) false ty).run P w= .ok (.tuple #[.bool true,v1,v2]) w'/\xY b w w'/\(∃bm M c sn,ρ m=some (bm,M)/\w'.heap[b]? =some (.mapIter (some bm) c sn c))/\np ρ w' n m es ex r (some x)):=by
 obtain⟨b,N,bm,M,l,bj,seen,h1,h2,h3,h4,h5,h6,h7,h8,h9⟩:=u;refine⟨b,N,h1,?_⟩;have y8:(leftOf l seen).toList=l.toList.filter fun e=> !seen.contains e.born:=by simp[leftOf]
 obtain⟨l',hp,hq⟩:=h8;rcases run_next_at (P:=P) w ty b bm bj bj seen l bj h3 h4 h5.2 (Nat.le_refl _) with⟨k1,k2⟩|⟨e,he,w1,RH,k2⟩
 ·refine .inl ⟨?_,k2⟩;have:(leftOf l seen).toList=[]:=by apply List.eq_nil_of_length_eq_zero;simpa using k1
  rw[y8] at this;rw[this] at hp;have nf:=hp.symm.eq_nil;subst nf;exact hq.aeO
 ·refine .inr ?_;rw[y8] at he;have Iv:e∈l':=hp.mem_iff.1 he;obtain⟨x,r,Mx,p1,p2,p3,p4,p5⟩:=T9 hq Iv;have cz:bm≠b:=by intro q;subst q;rw[h3] at h4;cases h4
  have iO:(ChangeMaps.setBlock w1 b<|.mapIter (some bm) bj (seen.push e.born) bj).heap[b]? =some (.mapIter (some bm) bj (seen.push e.born) bj):=by
   have cF:b<w.heap.size:=gV h3;have:(ChangeMaps.setBlock w1 b<|.mapIter (some bm) bj (seen.push e.born) bj).heap=w.heap.setIfInBounds b (.mapIter (some bm) bj (seen.push e.born) bj):=by rcases RH with rfl|rfl<;>rfl
   rw[this,Array.getElem?_setIfInBounds_self_of_lt cF]
  refine⟨x,r,e.key,e.val,_,p1,p2,p3,k2,Tv RH,⟨bm,M,bj,seen.push e.born,h2,iO⟩,?_⟩;have qZ:e∈l.toList:=(List.mem_filter.1 he).1;have FQ:((e::Mx).map (·.born)).Nodup:=by have a:((l.toList.filter fun e=> !seen.contains e.born).map (·.born)).Nodup:=(List.filter_sublist.map _).nodup h5.1;exact((hp.trans p5).map _).nodup_iff.1 a
  rw[List.map_cons,List.nodup_cons] at FQ;refine⟨b,N,bm,M,l,bj,seen.push e.born,h1,h2,iO,((Tv RH).block bm cz).trans h4,h5,h6,h7,⟨Mx,?_,p4⟩,⟨e,qZ,by simp,p2,p3⟩⟩;have e1:(l.toList.filter fun x=> !(seen.push e.born).contains x.born)=(l.toList.filter fun x=> !seen.contains x.born).filter fun x=> !(x.born == e.born):=by rw[List.filter_filter];congr 1;funext x;simp only[Array.contains_push];rw[Bool.not_or,Bool.and_comm]
  have e2:(e::Mx).filter (fun x=> !(x.born == e.born))=Mx:=by
   rw[List.filter_cons];simp only[beq_self_eq_true,Bool.not_true,Bool.false_eq_true,if_false];refine List.filter_eq_self.2 fun x hx=>?_;have:¬x.born=e.born:=by intro q;exact FQ.1 (by rw[←q];exact List.mem_map_of_mem hx)
   simp[this]
  rw[e1];have:=(hp.trans p5).filter fun x=> !(x.born == e.born);rw[e2] at this;exact this
theorem Rel.WS(r:Rel B ρ h w)(ht:n<top)(hg:h.get n=some (.iter m es ex left cur))(hr:ρ n=some (b,N))(hw:xY b w w')(hb:∃bm M c sn,ρ m=some (bm,M)/\w'.heap[b]? =some (.mapIter (some bm) c sn c))(u:np ρ w' n m es ex iK iL):Rel B ρ (h.put n<|some<|.iter m es ex iK iL) w':=by
 obtain⟨_,_,_,hB⟩:=r.block ht hg hr;obtain⟨pv,fx,_⟩:=r.iter n m es ex left cur ht hg;have sL:m≠n:=by intro e;subst e;rw[hg] at fx;cases fx
 have g:∀k,k<top->(h.put n<|some<|.iter m es ex iK iL).get k=if k=n then some (.iter m es ex iK iL) else h.get k:=fun k hk=>Tr.dt _ _ _ _ ht hk
 have live:∀j,j<top->∀x,(if j=n then some (ae.iter m es ex iK iL) else h.get j)=some x->∃y,h.get j=some y/\(x.du=false->y.du=false):=by
  intro j _ x hx;by_cases e:j=n
  ·subst e;exact⟨_,hg,fun _=>rfl⟩
  ·rw[if_neg e] at hx;exact⟨x,hx,id⟩
 refine⟨?_,?_,?_,by rw[hw.size];exact r.size,?_,r.fz.of (aw.le_refl _) (fun b1 _ hn=>hw.block b1 fun e=>hn n _ N ht hg rfl (by rw[e];exact hr)) (fun b1 _ hn=>hn.sub fun k q hk hq hU=>by
  rw[g k hk] at hq;obtain⟨y,e1,e2⟩:=live k hk q hq;exact⟨y,e1,e2 hU⟩),r.tk.of (aw.le_refl _) (fun k q hk hq yB=>by
  rw[g k hk] at hq;by_cases e:k=n
  ·rw[if_pos e] at hq;cases hq;cases yB
  ·rw[if_neg e] at hq;exact hq) (by rw[hw.size];exact Nat.le_refl _) (fun b1 _ hn=>hw.block b1 fun e=>hn n _ N ht hg rfl (by rw[e];exact hr)) (fun b1 _ hn=>hn.sub fun k q hk hq hU=>by
  rw[g k hk] at hq;obtain⟨y,e1,e2⟩:=live k hk q hq;exact⟨y,e1,e2 hU⟩) fun _ _ _ _ _ e=>e⟩
 ·intro k q hk hq;rw[g k hk] at hq;by_cases e:k=n
  ·subst e;rw[if_pos rfl] at hq;cases hq;obtain⟨bm,M,c,sn,q1,q2⟩:=hb;exact⟨b,N,_,hr,q2,⟨bm,M,c,sn,q1,rfl⟩,fun _=>hB rfl⟩
  ·rw[if_neg e] at hq;obtain⟨b1,N1,o1,h1,h2,h3,h4⟩:=r.is k q hk hq;refine⟨b1,N1,o1,h1,(hw.block b1 fun e2=>?_).trans h2,h3,h4⟩;subst e2;exact e<|r.one k n q _ b1 N1 N hk ht hq hg (.inr rfl) h1 hr
 ·intro k j q q' b1 N1 M1 hk hj hq dR cZ h1 h2;rw[g k hk] at hq;rw[g j hj] at dR;obtain⟨y,hy,wM⟩:=live k hk q hq;obtain⟨z,hz,It⟩:=live j hj q' dR;exact r.one k j y z b1 N1 M1 hk hj hy hz (cZ.imp wM It) h1 h2
 ·intro i m' hJ iW l' c' hi hq;rw[g i hi] at hq;by_cases e:i=n
  ·subst e;rw[if_pos rfl] at hq;cases hq;exact⟨pv,by rw[g m pv,if_neg sL];exact fx,u⟩
  ·rw[if_neg e] at hq;obtain⟨eD,hl,u'⟩:=r.iter i m' hJ iW l' c' hi hq;have LV:m'≠n:=by intro e2;subst e2;rw[hg] at hl;cases hl
   refine⟨eD,by rw[g m' eD,if_neg LV];exact hl,u'.mX hw.block (fun M e2=>e ?_) fun M e2=>LV ?_⟩
   ·exact r.one i n _ _ b M N hi ht hq hg (.inr rfl) e2 hr
   ·exact r.one m' n _ _ b M N eD ht hl hg (.inr rfl) e2 hr
 ·intro i j m' AU AW Ad Aw Mr Ms Lm LN hi hj q1 q2;rw[g i hi] at q1;rw[g j hj] at q2;have Zg:∀k,k<top->∀AU AW Ad Aw,(if k=n then some (ae.iter m es ex iK iL) else h.get k)=some (.iter m' AU AW Ad Aw)->∃Mr Ms Lm LN,h.get k=some (.iter m' Mr Ms Lm LN):=by
   intro k _ AU AW Ad Aw q;by_cases e:k=n
   ·subst e;rw[if_pos rfl] at q;cases q;exact⟨_,_,_,_,hg⟩
   ·rw[if_neg e] at q;exact⟨_,_,_,_,q⟩
  obtain⟨_,_,_,_,a1⟩:=Zg i hi _ _ _ _ q1;obtain⟨_,_,_,_,a2⟩:=Zg j hj _ _ _ _ q2;exact r.lone i j m' _ _ _ _ _ _ _ _ hi hj a1 a2
theorem Rel.adu{o:ae}{o':Obj}(r:Rel B ρ h w)(ht:m<top)(hg:h.get m=some .jP)(hr:ρ m=some (b,N))(hb:w.heap[b]? =some o')(hO:OR ρ N o o')(C0:o.own=true)(l7:∀i es ex left cur,i<top->h.get i≠some (.iter m es ex left cur)):Rel B ρ (h.put m<|some o) w:=by
 obtain⟨ho,HP⟩:=ae.vt C0;obtain⟨_,_,_,hB⟩:=r.block ht hg hr;have g:∀k,k<top->(h.put m<|some o).get k=if k=m then some o else h.get k:=fun k hk=>Tr.dt _ _ _ _ ht hk
 have live:∀j,j<top->∀x,(if j=m then some o else h.get j)=some x->∃y,h.get j=some y/\(x.du=false->y.du=false):=by
  intro j _ x hx;by_cases e:j=m
  ·subst e;exact⟨_,hg,fun _=>rfl⟩
  ·rw[if_neg e] at hx;exact⟨x,hx,id⟩
 refine⟨?_,?_,?_,r.size,?_,r.fz.of (aw.le_refl _) (fun _ _ _=>rfl) (fun b1 _ hn=>hn.sub fun k q hk hq hU=>by
  rw[g k hk] at hq;obtain⟨y,e1,e2⟩:=live k hk q hq;exact⟨y,e1,e2 hU⟩),r.tk.of (aw.le_refl _) (fun k q hk hq yB=>by
  rw[g k hk] at hq;by_cases e:k=m
  ·rw[if_pos e] at hq;cases hq;rw[HP] at yB;cases yB
  ·rw[if_neg e] at hq;exact hq) (Nat.le_refl _) (fun _ _ _=>rfl) (fun b1 _ hn=>hn.sub fun k q hk hq hU=>by
  rw[g k hk] at hq;obtain⟨y,e1,e2⟩:=live k hk q hq;exact⟨y,e1,e2 hU⟩) fun _ _ _ _ _ e=>e⟩
 ·intro k q hk hq;rw[g k hk] at hq;by_cases e:k=m
  ·subst e;rw[if_pos rfl] at hq;cases hq;exact⟨b,N,_,hr,hb,hO,fun _=>hB rfl⟩
  ·rw[if_neg e] at hq;exact r.is k q hk hq
 ·intro k j q q' b1 N1 M1 hk hj hq dR cZ h1 h2;rw[g k hk] at hq;rw[g j hj] at dR;obtain⟨y,hy,wM⟩:=live k hk q hq;obtain⟨z,hz,It⟩:=live j hj q' dR;exact r.one k j y z b1 N1 M1 hk hj hy hz (cZ.imp wM It) h1 h2
 ·intro i m' hJ iW l' c' hi hq;rw[g i hi] at hq;by_cases e:i=m
  ·subst e;rw[if_pos rfl] at hq;cases hq;simp[ae.plain] at ho
  ·rw[if_neg e] at hq;obtain⟨eD,hl,u'⟩:=r.iter i m' hJ iW l' c' hi hq;have LV:m'≠m:=by intro e2;subst e2;exact l7 i _ _ _ _ hi hq
   exact⟨eD,by rw[g m' eD,if_neg LV];exact hl,u'⟩
 ·intro i j m' AU AW Ad Aw Mr Ms Lm LN hi hj q1 q2;rw[g i hi] at q1;rw[g j hj] at q2;by_cases e:i=m
  ·rw[if_pos e] at q1;cases q1;simp[ae.plain] at ho
  ·rw[if_neg e] at q1;by_cases e2:j=m
   ·rw[if_pos e2] at q2;cases q2;simp[ae.plain] at ho
   ·rw[if_neg e2] at q2;exact r.lone i j m' _ _ _ _ _ _ _ _ hi hj q1 q2
theorem Rel.Yg(r:Rel B ρ h w)(ht:n<top)(hg:h.get n=some (.iter m es ex left cur)):Rel B ρ ((h.put n none).put m<|some<|mapOf ex es) w:=by
 obtain⟨pv,fx,b,N,bm,M,l,bj,seen,h1,h2,h3,h4,h5,h6,h7,h8,h9⟩:=r.iter n m es ex left cur ht hg;have sL:m≠n:=by intro e;subst e;rw[hg] at fx;cases fx
 have g:∀k,k<top->(h.put n none).get k=if k=n then none else h.get k:=fun k hk=>Tr.dt _ _ _ _ ht hk
 refine(r.drop ht (by rw[hg];simp)).adu pv (by rw[g m pv,if_neg sL];exact fx) h2 h4 ?_ (by cases ex<;>rfl) ?_
 ·cases ex with
  |true=>obtain⟨q1,q2⟩:=h6 rfl;subst q1;exact⟨l,rfl,rfl,q2⟩
  |false=>obtain⟨q1,q2⟩:=h7 rfl;exact⟨l,bj,rfl,q1,h5,q2⟩
 ·intro i hJ iW iK iL hi hq;rw[g i hi] at hq;by_cases e:i=n
  ·rw[if_pos e] at hq;cases hq
  ·rw[if_neg e] at hq;exact e<|r.lone i n m _ _ _ _ _ _ _ _ hi ht hq hg
end
end Go.Rn
namespace Go.Rn
open Go.RowKit
variable {rest:List Oper} {ops:Array Oper} {o:Oper} {k:List Item} {it:Operand}
section
variable {P:Program} {B:aJ} {ρ:aw} {w w1:World} {s s1 s2:AS} {SI:aO} {b:Frame} {a:Act} {cs:List Frame}
theorem put_defers(a:Act)(dst:Option Tmp)(v:Value):(a.put dst v).defers=a.defers:=by cases dst<;>rfl
theorem Jl{fr:AF}{id:Nat}{t1 t2:Tr AV}{v:Value}(hc:fR P B SI)(hl:∀t a,SH<|SI t a)(bG:Fr ρ fr b a)(oX:fr.todo= .code (.region id ops false)::k)(mI:ops.toList=o::rest)(C7:o.guard=none)(hd:∀c,o.op≠ .defer c)(qY:(execOp a.eval o).run P w= .ok (.value v) w1)(CA:cP B w w1)(ay:At B ρ s1 fr.nt t1 w1<|a.put o.dst v)(cJ:s1.nx=s.nx)(hf:dJ s1.nx s2.nx ρ)(h:jl P SI fr.nt ops rest t1 s1= .ok t2 s2):
 ma P B ρ s s2 w fr b cs (lone (b.atR a fr.todo) cs w) (.go {fr with tmps:=t2,todo:=k}):=by
 have hw:Region.wanted o (yielded ops a.tmps)=true:=by unfold Region.wanted;rw[C7]
 have ho:ops[0]? =some o:=by rw[←Array.getElem?_toList,mI];rfl
 have lv:ops.size=rest.length+1:=by rw[←Array.length_toList,mI];rfl
 have hk:jz k:=by have:=bG.ok;rw[oX] at this;exact this.tail
 obtain⟨v',w',⟨rfl,rfl⟩,st⟩:=Tq (R:=fun v' w'=>v'=v/\w'=w1) ho hw hd (by unfold jo;rw[qY];exact⟨rfl,rfl⟩) b k cs<|List.range' 1 rest.length;obtain⟨σ,a',w2,e1,e2,e3,e4,e5⟩:=OH hc hl b k cs rest.length 1 rest rfl (by rw[mI];rfl) ay hf h;refine⟨σ,a',w2,by rw[←cJ];exact e1,e2,?_,CA.trans e4,⟨rfl,rfl,rfl⟩,hk,trivial,?_⟩
 ·rw[e3,put_defers];exact bG.defs.mono e1.le
 ·rw[oX];refine .head stepR_region ?_;rw[List.range_eq_range',lv,List.range'_succ];exact Steps.trans st e5
theorem Tg{fr:AF}{n:Nat}{ob:ae}(h:vA fr it s= .ok (n,ob) s1):aK fr.tmps it=some (.ptr<|some (n,0))/\bw n s= .ok ob s1:=by
 unfold vA at h;obtain⟨x,s2,h1,h2⟩:=M.aR h;obtain⟨h3,rfl⟩:=gT h1;split at h2
 ·obtain⟨y,s3,h4,h5⟩:=M.aR h2;obtain⟨h6,rfl⟩:=bH h5;cases h6;exact⟨h3,h4⟩
 ·cases h2
theorem S2{fr:AF}(h:DW fr=some (it,o,ops,rest,k)):
 ∃id,fr.todo= .code (.region id ops false)::k/\ops.toList=o::rest/\o.guard=none/\o.op= .next it false:=by
 unfold DW at h;split at h
 ·rename_i id anY k' oX;split at h
  ·rename_i o' anO mI;split at h
   ·rename_i it' hg ho;cases h;exact⟨id,oX,mI,hg,ho⟩
   ·cases h
  ·cases h
 ·cases h
theorem Tw(bT:P.follows .mixedOrders=true)(hc:fR P B SI)(hl:∀t a,SH<|SI t a):∀(f:Nat) {ρ:aw} {w:World} {s s9:AS} {a:Act} {fr:AF} {x9:br},Fr ρ fr b a->At B ρ s fr.nt fr.tmps w a->dJ s.nx s9.nx ρ->
 nQ P SI f fr s= .ok x9 s9->ma P B ρ s s9 w fr b cs (lone (b.atR a fr.todo) cs w) x9
 |0,ρ,w,s,s9,a,fr,x9,bG,ay,hf,h=>by cases h
 |f+1,ρ,w,s,s9,a,fr,x9,bG,ay,hf,h=>by
  have on:∀{s2:AS} {aQ:AF},nQ P SI f aQ s2= .ok x9 s9->bE s2->s.nx<=s2.nx->ma P B ρ s s2 w fr b cs (lone (b.atR a fr.todo) cs w) (.go aQ)->ma P B ρ s s9 w fr b cs (lone (b.atR a fr.todo) cs w) x9:=fun h2 dH lu w1=>w1.Lo bG lu ((SH.nQ P hl f _).le dH h2) fun σ a' w' e1 Cy Cz=>Tw bT hc hl f Cy Cz (hf.next lu e1) h2;unfold nQ at h;cases e:DW fr with
  |none=>
   rw[e] at h;obtain⟨x,s2,e1,h3⟩:=M.aR h;have dH:=(SH.jg P hl fr).cG ay.cG e1;have lu:=(SH.jg P hl fr).le ay.cG e1;cases x with
   |go aQ=>exact on h3 dH lu<|Gs bT hc hl bG ay (hf.sub (Nat.le_refl _)<|(SH.nQ P hl f aQ).le dH h3) e1
   |leave aQ j=>obtain⟨rfl,rfl⟩:=bH h3;exact Gs bT hc hl bG ay hf e1
  |some q=>
   obtain⟨it,o,ops,rest,k⟩:=q;obtain⟨id,oX,mI,C7,ho⟩:=S2 e;rw[e] at h;obtain⟨x,s2,e1,h3⟩:=M.aR h;obtain⟨n,ob⟩:=x;obtain⟨h1,h2⟩:=Tg e1;obtain⟨hx,hg,hh,cJ⟩:=fY h2;have dH:bE s2:=(SH.bw n).cG ay.cG h2;have ht:n<top:=Nat.lt_of_lt_of_le hx ay.cG.nx;have hd:∀c,o.op≠ .defer c:=fun c q=>by rw[ho] at q;cases q
   cases ob with
   |iter m es ex left cur=>
    obtain⟨pv,fx,u⟩:=ay.rel.iter n m es ex left cur ht hg;obtain⟨bn,N,hn,p6⟩:=u.next (P:=P) o.type;have IC:VR ρ (.ptr<|some (n,0))<|a.eval it:=D8 ay.tr ay.g h1;have FT:a.eval it= .pointer (some ⟨bn,0,none⟩):=by simp only[VR] at IC;obtain⟨b',N',q1,q2⟩:=IC;rw[hn] at q1;cases q1;exact q2
    have Hy:∀v w',(Instr.next (.pointer<|some ⟨bn,0,none⟩) false o.type).run P w= .ok v w'->(execOp a.eval o).run P w= .ok (.value v) w':=by intro v w' q;simp only[execOp,ho,FT,Sem.run_bind,q,Result.andThen_ok,Sem.run_pure]
    obtain⟨_,_,_,hB⟩:=ay.rel.block ht hg hn;cases left with
    |nil=>
     obtain⟨aQ,s3,e3,h4⟩:=M.aR h3;have qY:(Instr.next (.pointer<|some ⟨bn,0,none⟩) false o.type).run P w= .ok (.tuple #[.bool false]) w:=by
      rcases p6 with⟨_,q⟩|⟨x,r,v1,v2,w',q,_⟩
      ·exact q
      ·cases q
     have ju:=(SH.pO P hl fr n m es ex o ops rest k).cG dH e3;have C6:=(SH.pO P hl fr n m es ex o ops rest k).le dH e3;have RI:=(SH.nQ P hl f aQ).le ju h4;refine on h4 ju ak ?_;unfold pO at e3;obtain⟨u1,s4,i1,i2⟩:=M.aR e3;obtain⟨u2,s5,i3,i4⟩:=M.aR i2;obtain⟨t1,s6,i5,i6⟩:=M.aR i4;obtain⟨t2,s7,i7,i8⟩:=M.aR i6;obtain⟨rfl,rfl⟩:=bH i8;obtain⟨i9,rfl⟩:=gT i5;obtain⟨_,_,_,j1,j2⟩:=jy i1;obtain⟨_,_,_,j3,j4⟩:=jy i3;have C8:bE s6:=(SH.bM m _).cG ((SH.bM n _).cG dH i1) i3;have CB:Rel B ρ s6.h w:=by rw[j3,j1,hh];exact ay.rel.Yg ht hg
     have C9:VR ρ (.tuple [.bool false])<|.tuple #[.bool false]:=by simp only[VR,az];exact⟨_,rfl,_,_,rfl,rfl,rfl⟩
     obtain⟨q1,q2⟩:=DY (a:=a) ay.tr ay.nt i9 C9;exact Jl hc hl bG oX mI C7 hd (Hy _ _ qY) (cP.refl _ _) ⟨q1,CB,ay.g,ay.nt,C8⟩ (by rw[j4,j2,cJ]) (by rw[j4,j2,cJ];exact hf.sub (Nat.le_refl _) RI) i7
    |cons y ys=>
     cases ys with
     |cons _ _=>cases h3
     |nil=>
      obtain⟨aQ,s3,e3,h4⟩:=M.aR h3;rcases p6 with⟨q,_⟩|⟨x,r,v1,v2,w',iz,FX,sM,qY,ID,QP,RK⟩
      ·cases q
      ·obtain⟨rfl,rfl⟩:x=y/\r=[]:=by simpa[ym] using iz
       have ju:=(SH.pQ P hl fr n (.iter m es ex []<|some x) o ops rest k<|.tuple [.bool true,x.1,x.2]).cG dH e3;have C6:=(SH.pQ P hl fr n (.iter m es ex []<|some x) o ops rest k<|.tuple [.bool true,x.1,x.2]).le dH e3;have RI:=(SH.nQ P hl f aQ).le ju h4;refine on h4 ju ak ?_;unfold pQ at e3;obtain⟨u1,s4,i1,i2⟩:=M.aR e3;obtain⟨t1,s6,i5,i6⟩:=M.aR i2;obtain⟨t2,s7,i7,i8⟩:=M.aR i6;obtain⟨rfl,rfl⟩:=bH i8;obtain⟨i9,rfl⟩:=gT i5;obtain⟨_,_,_,j1,j2⟩:=jy i1;have C8:bE s6:=(SH.bM n _).cG dH i1;have CB:Rel B ρ s6.h w':=by rw[j1,hh];exact ay.rel.WS ht hg hn ID QP RK
       have C9:VR ρ (.tuple [.bool true,x.1,x.2])<|.tuple #[.bool true,v1,v2]:=by simp only[VR,az];exact⟨_,rfl,_,_,rfl,rfl,_,_,rfl,FX,_,_,rfl,sM,rfl⟩
       obtain⟨q1,q2⟩:=DY (a:=a) ay.tr ay.nt i9 C9;exact Jl hc hl bG oX mI C7 hd (Hy _ _ qY) (ID.below<|hB rfl) ⟨q1,CB,ay.g,ay.nt,C8⟩ (by rw[j2,cJ]) (by rw[j2,cJ];exact hf.sub (Nat.le_refl _) RI) i7
   |_=>cases h3
end
end Go.Rn
namespace Go.Rn
open Go.RowKit
variable {x:AV} {vs:Array Value} {args:List AV} {u:Nat} {j:Option Code} {fn:Func} {body:Code}
section
variable {P:Program} {B:aJ} {ρ:aw} {w:World} {s s1:AS} {SI:aO}
theorem Je(hv:az ρ args vs.toList)(n:Nat)(hn:max n args.length<=top):TR ρ (max n args.length) (dZ args)<|vs++Array.replicate (n - vs.size) undef:=by
 have hlen:=hv.length;simp only[Array.length_toList] at hlen;refine⟨by simp;omega,fun i x hx=>?_⟩;unfold dZ at hx;rw[Tr.xy _ _ _ _ ak] at hx;by_cases h:i<args.length
 ·rw[if_pos ak,Nat.sub_zero] at hx;obtain⟨v,h1,h2⟩:=hv.get i x hx;rw[Array.getD_eq_getD_getElem?,Array.getElem?_append_left ak];rw[Array.getElem?_toList] at h1;rw[h1];exact h2
 ·rw[if_neg ak,Tr.get_nil] at hx;cases hx
def Ku:List AV->AV
 |[v]=>v
 |l=>.tuple l
def oJ:List Value->Value
 |[v]=>v
 |l=>.tuple l.toArray
theorem NX:∀{rs:List AV} {us:List Value},az ρ rs us->VR ρ (Ku rs) (oJ us)
 |[],us,h=>by simp only[az] at h;subst h;simp only[Ku,oJ,VR,az];exact⟨_,rfl,rfl⟩
 |[v],us,h=>by simp only[az] at h;obtain⟨u,Mw,rfl,g1,rfl⟩:=h;exact g1
 |v::v2::rs,us,h=>by simp only[az] at h;obtain⟨u,Mw,rfl,g1,u2,nF,rfl,g3,g4⟩:=h;simp only[Ku,oJ,VR,az];exact⟨_,rfl,u,_,rfl,g1,u2,nF,rfl,g3,g4⟩
theorem ND{rs:List ResultVar}{fr:AF}(h:finish P rs fr j s= .ok x s1):
 (j=none\/j=some .ret)/\∃u s4 vs,rP fr.defers s= .ok u s4/\tI P fr.tmps rs s4= .ok vs s1/\x=Ku vs:=by
 unfold finish at h;obtain⟨u,s3,h5,h6⟩:=M.aR h;have Rt:s3=s/\(j=none\/j=some .ret):=by
  cases j with
  |none=>exact⟨(bH (show M.pure () s= .ok u s3 from h5)).2,.inl rfl⟩
  |some c=>cases c<;>first|exact⟨(bH (show M.pure () s= .ok u s3 from h5)).2,.inr rfl⟩|cases h5
 obtain⟨hs,hj⟩:=Rt;clear h5 h;subst hs;obtain⟨u2,s4,h7,h8⟩:=M.aR h6;obtain⟨vs,s5,h9,gH⟩:=M.aR h8;refine⟨hj,u2,s4,vs,h7,?_⟩;cases vs with
 |nil=>obtain⟨rfl,rfl⟩:=bH (show M.pure (.tuple []) s5= .ok x s1 from gH);exact⟨h9,rfl⟩
 |cons v rs=>
  cases rs with
  |nil=>obtain⟨rfl,rfl⟩:=bH (show M.pure v s5= .ok x s1 from gH);exact⟨h9,rfl⟩
  |cons v2 rs=>obtain⟨rfl,rfl⟩:=bH (show M.pure (.tuple<|v::v2::rs) s5= .ok x s1 from gH);exact⟨h9,rfl⟩
theorem adv{b:Frame}{a:Act}{cs:List Frame}(bT:P.follows .mixedOrders=true)(hc:fR P B SI)(hl:∀t a,SH<|SI t a){af:AF}{x:br}(bG:Fr ρ af b a)(ay:At B ρ s af.nt af.tmps w a)(hf:dJ s.nx s1.nx ρ)(h:Au P SI u af s= .ok x s1):ma P B ρ s s1 w af b cs (lone (b.atR a af.todo) cs w) x:=by
 unfold Au at h;cases e:Nat.beq u 1 with
 |true=>simp only[e] at h;exact Tw bT hc hl _ bG ay hf h
 |false=>simp only[e] at h;exact NW bT hc hl _ _ bG ay hf h
theorem SP{g:FuncId}{fr:AF}{s2 s3:AS}(ch:P.funcs[g]? =some fn)(cw:fn.body=some body)(AZ:bE s2)(hw:∀cs:List Frame,ma P B ρ s s2 w ⟨g,dZ args,max fn.ntmps args.length,[.code body],[],none⟩ {(default:Frame) with fn:=g,kind:=.normal,roundOf:=none} cs
 (lone (({(default:Frame) with fn:=g,kind:=.normal,roundOf:=none}:Frame).atR {tmps:=vs++Array.replicate (fn.ntmps - vs.size) undef,defers:=[]} [.code body]) cs w) (.leave fr j))(qe:finish P fn.results.toList fr j s2= .ok x s3):Calls P g vs w fun e w'=>∃v,e= .returned v/\kg B ρ s s3 w x v w':=by
 intro cs;let b:Frame:={(default:Frame) with fn:=g,kind:=.normal,roundOf:=none};let a:Act:={tmps:=vs++Array.replicate (fn.ntmps - vs.size) undef,defers:=[]};have xZ:Frame.enter P g vs .normal=b.atR a [.code body]:=by simp[Frame.enter,Frame.atR,ch,cw,b,a]
 obtain⟨σ,a',w',e1,e2,e3,e4,⟨e5,FY,anZ⟩,e6,e7,e8⟩:=hw cs;obtain⟨hj,u2,s4,rs,h7,h9,hx⟩:=ND qe;have pw:bE s4:=(SH.rP _).cG AZ h7;have qv:Leaves j fr.todo:=e7;obtain⟨d1,d2,w2,d3,d4,d5⟩:=Jd (P:=P) (fr:=b) (cs:=cs) AZ e2.rel e3 h7;obtain⟨f1,f2,us,f3,f4⟩:=Ja (P:=P) (w:=w2) e2.tr pw d3 h9;have HU:Steps P (lone (b.atR a' fr.todo) cs w')<|lone {b.atR a' fr.todo with mode:=.returning} cs w':=by
  rcases hj with rfl|rfl
  ·have e:fr.todo=[]:=qv;rw[e];exact .one<|stepR_end rfl
  ·obtain⟨k,e⟩:=qv;rw[e];exact .one<|stepR_ret rfl
 have yn:=d5 {b.atR a' fr.todo with mode:=.returning} cs jI rfl;have kz:(results fn a'.tmps).run P w2= .ok (oJ us) w2:=by
  unfold results;rw[Array.mapM_eq_mapM_toList];simp only[Sem.run_bind,map_eq_pure_bind,Sem.run_pure];refine Eq.trans (congrArg (fun r:Result (List Value)=>(r.andThen fun a w'=>Result.ok a.toArray w').andThen fun a w'=>Result.ok (if h:a.size=1 then a[0] else Value.tuple a) w') f3) ?_;have:∀l:List Value,(Result.ok (if h:l.toArray.size=1 then l.toArray[0] else Value.tuple l.toArray) w2:Result Value)= .ok (oJ l) w2:=by
   intro l
   match l with
   |[]=>rfl
   |[v]=>rfl
   |v::v2::l=>simp[oJ]
  exact this us
 refine⟨.returned<|oJ us,w2,{b.atR a' fr.todo with mode:=.returning,defers:=[]},⟨_,rfl,?_⟩,?_,rfl,?_⟩
 ·exact⟨σ,by rw[show s3.nx=s2.nx by rw[f2,d1]];exact e1,by rw[hx];exact NX f4,by rw[f1];exact d3,e4.trans d4⟩
 ·rw[xZ];exact Steps.trans e8<|Steps.trans HU yn
 ·exact⟨rfl,rfl,rfl,fn,ch,kz⟩
theorem adw(bT:P.follows .mixedOrders=true)(hc:fR P B SI)(hl:∀t a,SH<|SI t a){f:FuncId}(ch:P.funcs[f]? =some fn)(cw:fn.body=some body)(dD:(fn.name == "runtime.NumGoroutine")=false)(dm:iD body)(fi:bE s)(r:Rel B ρ s.h w)(hg:gk ρ)(hf:dJ s.nx s1.nx ρ)(h:EL P u f fn.ntmps fn.results.toList body SI args s= .ok x s1)(hv:az ρ args vs.toList):jo P ((callFunc f vs).run P w)<|kg B ρ s s1 w x:=by
 have bI:(callFunc f vs).run P w= .ok (.enter f vs) w:=by
  have Hz:(program).run P w= .ok P w:=rfl;have hn:fn.name≠ "runtime.NumGoroutine" :=by simpa using dD
  simp only[callFunc,Sem.run_bind,Hz,Result.andThen_ok,ch,dD,cw];simp
 rw[bI];unfold EL at h;obtain⟨h1,h2⟩:=cX h;have pd:=aL.1 h1;obtain⟨y,s2,h3,h4⟩:=M.aR h2;cases y with
 |go fr=>cases h4
 |leave fr j=>have IE:finish P fn.results.toList fr j s2= .ok x s1:=h4;have dH:=(SH.Au P hl u ⟨f,dZ args,max fn.ntmps args.length,[.code body],[],none⟩).cG fi h3;have C4:=(SH.finish P fn.results.toList fr j).le dH IE;exact SP ch cw dH (fun cs=>adv (b:={(default:Frame) with fn:=f,kind:=.normal,roundOf:=none}) (a:={tmps:=vs++Array.replicate (fn.ntmps - vs.size) undef,defers:=[]}) (cs:=cs) bT hc hl ⟨rfl,rfl,trivial,rfl,.cons dm .nil⟩ ⟨Je hv _ pd,r,hg,pd,fi⟩ (hf.sub (Nat.le_refl _) C4) h3) IE
structure bB (P:Program):Prop where
 mixed:P.follows .mixedOrders=true
 code:∀(f:FuncId) (fn:Func) (body:Code),P.funcs[f]? =some fn->fn.body=some body->iD body
def WT(_:Program)(_:aJ)(_:FuncId->Nat):Prop:=True
theorem UO(hP:bB P){jZ:FuncId->Nat}(hw:WT P B jZ):∀(n:Nat),fR P B (Av P jZ n)
 |0=>⟨(fun f args x s s1 ρ w vs _ _ _ _ h _=>by cases h),(fun l b N args x s s1 ρ w vs _ _ _ _ h _ _=>by cases h),(fun n o k x s s1 ρ w _ _ h=>by cases h)⟩
 |n+1=>by
  have ih:=UO hP hw n;refine⟨fun f args x s s1 ρ w vs fi r hg hf h hv=>?_,fun l b N args x s s1 ρ w vs fi r hg hf h hv hl=>acp hP.mixed ih (Jo P jZ n) fi r hg hf h hv hl,fun n o k x s s1 ρ w _ _ h=>by cases h⟩;have h':(Iq P jZ f).val (Av P jZ n) args s= .ok x s1:=h;unfold Iq at h';cases e1:P.funcs[f]? with
  |none=>rw[e1] at h';cases h'
  |some fn=>
   rw[e1] at h';cases e2:fn.body with
   |none=>simp only[e2] at h';cases h'
   |some body=>
    simp only[e2] at h';cases e3:(fn.name == "runtime.NumGoroutine") with
    |true=>simp only[e3] at h';cases h'
    |false=>simp only[e3] at h';exact adw hP.mixed ih (Jo P jZ n) e1 e2 e3 (hP.code f fn body e1 e2) fi r hg hf h' hv
end
end Go.Rn
namespace Go.Rn
theorem sameKey_eq{a b:AV}(h:sameKey a b=some true):a=b:=by
 unfold sameKey at h;split at h<;>first|(cases h;done)|skip
 ·rename_i k x k' y;cases hk:decide (k=k') with
  |false=>rw[hk] at h;cases h
  |true=>
   rw[hk] at h;injection h with h
   have e1:=of_decide_eq_true hk;have e2:x=y:=by simpa using h
   rw[e1,e2]
 ·rename_i x y;injection h with h
  obtain⟨x⟩:=x;obtain⟨y⟩:=y;have e:x=y:=by have h':(x == y)=true:=h;exact eq_of_beq h'
  rw[e]
 ·rename_i x y;injection h with h
  have e:x=y:=by simpa using h
  rw[e]
end Go.Rn

namespace Go.Rn
open Go.RowKit
noncomputable section
def eg(P:Program)(SI:aO)(k:Nat):AF->M br:= @Nat.rec (fun _=>AF->M br) (fun fr=>M.pure<|.go fr) (fun _ ih fr=>(jg P SI fr).bind fun x=> @br.rec (fun _=>M br) ih (fun fr j=>M.pure<|.leave fr j) x) k
def tL:List Nat->Code->Code
 |[],c=>c
 |0::l,.seq a _=>tL l a
 |_::l,.seq _ b=>tL l b
 |0::l,.cond _ a _=>tL l a
 |_::l,.cond _ _ b=>tL l b
 |_::l,.block _ b=>tL l b
 |_::l,.loop b=>tL l b
 |_::l,.scope b=>tL l b
 |0::l,.rangeFunc _ _ a _=>tL l a
 |_::l,.rangeFunc _ _ _ b=>tL l b
 |_::_,c=>c
def getAll(h:Tr ae):List Nat->List (Option ae)
 |[]=>[]
 |n::ns=>h.get n::getAll h ns
def UP:List (Option ae)->Bool
 |[]=>true
 |none::l=>UP l
 |some o::l=>match o.plain with
  |true=>UP l
  |false=>false
def PL(m:Nat):List Nat->Bool
 |[]=>true
 |n::l=>match Nat.blt n m with
  |true=>PL m l
  |false=>false
end
theorem NF{m:Nat}:∀{l:List Nat},PL m l=true->∀n∈l,n<m
 |[],_,n,h=>by cases h
 |a::l,hp,n,h=>by
  unfold PL at hp;split at hp
  ·rename_i e;rcases List.mem_cons.1 h with rfl|h
   ·rw[←blt_eq];exact e
   ·exact NF hp n h
  ·cases hp
section
variable {P:Program} {B:aJ} {ρ:aw} {w:World} {s s1:AS} {SI:aO} {b:Frame} {a:Act} {cs:List Frame}
theorem SH.eg(P:Program){SI:aO}(bI:∀t a,SH<|SI t a):∀(k:Nat) (fr:AF),SH (eg P SI k fr)
 |0,fr=>SH.pure _
 |k+1,fr=>by
  refine SH.bind (SH.jg P bI fr) fun x=>?_;cases x with
  |go fr=>exact SH.eg P bI k fr
  |leave fr j=>exact SH.pure _
theorem JM(bT:P.follows .mixedOrders=true)(hc:fR P B SI)(hl:∀t a,SH<|SI t a):∀(k:Nat) {ρ:aw} {w:World} {s s1:AS} {a:Act} {af:AF} {x:br},Fr ρ af b a->At B ρ s af.nt af.tmps w a->dJ s.nx s1.nx ρ->
 eg P SI k af s= .ok x s1->ma P B ρ s s1 w af b cs (lone (b.atR a af.todo) cs w) x
 |0,ρ,w,s,s1,a,af,x,bG,ay,hf,h=>by obtain⟨rfl,rfl⟩:=bH (show M.pure (.go af) s= .ok x s1 from h);exact DP bG ay rfl rfl ⟨rfl,rfl,rfl⟩ bG.ok trivial<|Steps.refl _ _
 |k+1,ρ,w,s,s1,a,af,x,bG,ay,hf,h=>by
  obtain⟨y,s2,h1,h2⟩:=M.aR (show((jg P SI af).bind fun x=> @br.rec (fun _=>M br) (eg P SI k) (fun fr j=>M.pure<|.leave fr j) x) s= .ok x s1 from h);have lu:=(SH.jg P hl af).le ay.cG h1;have dH:=(SH.jg P hl af).cG ay.cG h1;cases y with
  |go fr=>have sO:eg P SI k fr s2= .ok x s1:=h2;have qq:=(SH.eg P hl k fr).le dH sO;have w1:=Gs (b:=b) (cs:=cs) bT hc hl bG ay (hf.sub (Nat.le_refl _) qq) h1;exact w1.Lo bG lu qq fun σ a' w' e1 Cy Cz=>JM bT hc hl k Cy Cz (hf.next lu e1) sO
  |leave fr j=>obtain⟨rfl,rfl⟩:=bH (show M.pure (.leave fr j) s2= .ok x s1 from h2);exact Gs bT hc hl bG ay hf h1
theorem aeP{h:Tr ae}{nx:Nat}(hb:Nat.ble nx top=true):bE ⟨h,nx,0,[],[]⟩:=⟨Nat.zero_le _,aL.1 hb⟩
end
end Go.Rn
namespace Go.Rn
open Go.RowKit
variable {U:Nat} {v:Value} {b a:AV}
structure Start (U:Nat) (h0:Tr ae) (ρ:aw) (w:World):Prop where
 g:gk ρ
 free:∀k,U<=k->ρ k=none
 is:∀n o,n<top->h0.get n=some o->o.mW=true/\∃b N o',ρ n=some (b,N)/\w.heap[b]? =some o'/\OR ρ N o o'
theorem Start.rel{h0:Tr ae}{ρ:aw}{w:World}(S:Start U h0 ρ w)(ht:U<=top):Rel (ago w) ρ h0 w:=by
 refine⟨fun n o hn h=>?_,fun n m o p b N M hn hm h1 h2 cZ _ _=>?_,fun n m es ex left cur hn h=>?_,fun _ hk=>hk,fun i j m es ex left cur hJ iW iK iL hi _ h1 _=>?_,fun n b sh e=>absurd (S.free _<|Nat.le_trans ht<|gg n b sh) e,uO.no (fun n k v hn hg=>by have:=(S.is n _ hn hg).1;cases this) ⟨Nat.le_refl _,fun n o hn hg _=>by obtain⟨_,b,N,o',h1,h2,_⟩:=S.is n o hn hg;exact⟨b,N,h1,gV h2⟩⟩⟩
 ·obtain⟨hr,b,N,o',h1,h2,h3⟩:=S.is n o hn h;have hr:=ae.ke hr;exact⟨b,N,o',h1,h2,h3,fun q=>by rw[hr] at q;cases q⟩
 ·have e1:=ae.ke (S.is n o hn h1).1;have e2:=ae.ke (S.is m p hm h2).1;rcases cZ with q|q
  ·rw[e1] at q;cases q
  ·rw[e2] at q;cases q
 ·have:=(S.is n _ hn h).1;cases this
 ·have:=(S.is i _ hi h1).1;cases this
section
variable {P:Program} {B:aJ} {ρ:aw} {w:World} {s s1:AS} {SI:aO}
end
noncomputable section
def Fi(U:Nat):AV->AV->Bool
 | .nilFunc,.nilFunc=>true
 | .func (.func f) [] [],.func (.func g) [] []=>Nat.beq f g
 | .slice none 0 (.known 0),.slice none 0 (.known 0)=>true
 | .ab a b c,.ab d e f=>and (Nat.beq a d)<|and (Nat.beq b e)<|and (Nat.beq c f)<|and (Nat.blt d U)<|Nat.blt d top
 |x,y=>match sameKey x y with
  |some true=>true
  |_=>false
def GX(U:Nat)(t u:Tr AV):Nat->Bool
 |0=>true
 |i+1=>match t.get i,u.get i with
  |some a,some b=>and (Fi U a b)<|GX U t u i
  |_,_=>false
def oK(U:Nat):ae->ae->Bool
 | .ro m t,.ro n u=>and (Nat.beq m n)<|GX U t u n
 | .uj m t,.uj n u=>and (Nat.beq m n)<|GX U t u n
 |_,_=>false
def fe(U:Nat)(h0:Tr ae):List Nat->M Unit
 |[]=>M.pure ()
 |n::ns=>(bw n).bind fun o=>aC (h0.get n) fun p=>aF (oK U o p) <| fe U h0 ns
end
theorem SH.fe(U:Nat)(h0:Tr ae):∀ns,SH (fe U h0 ns)
 |[]=>SH.pure _
 |n::ns=>SH.bind (SH.bw n) fun _=>SH.aC fun _ _=>SH.aF fun _=>SH.fe U h0 ns
theorem UQ{ρ:aw}(h:Fi U a b=true)(hv:VR ρ a v):VR (fun k=>if k<U then ρ k else none) b v:=by
 unfold Fi at h;split at h
 ·simp only[VR] at hv ⊢;exact hv
 ·rename_i f g;have:f=g:=eA.1 h;subst this;simp only[VR,az] at hv ⊢;exact hv
 ·simp only[VR] at hv ⊢;exact hv
 ·obtain⟨q1,q2⟩:=and_true.1 h;obtain⟨q3,q4⟩:=and_true.1 q2;obtain⟨q5,q6⟩:=and_true.1 q4;have e1:=eA.1 q1;have e2:=eA.1 q3;have e3:=eA.1 q5;subst e1;subst e2;subst e3;obtain⟨q6,q7⟩:=and_true.1 q6;have cF:=(blt_eq _ _).mp q6;have gI:=(blt_eq _ _).mp q7;simp only[VR] at hv ⊢;rcases hv with hv|⟨b,sh,c,h1,h2⟩
  ·exact .inl hv
  ·exact .inr ⟨b,sh,c,.inl ⟨by omega,(if_pos cF).trans<|h1.low ak⟩,h2⟩
 ·split at h
  ·rename_i e;have:=sameKey_eq e;subst this;unfold sameKey at e;split at e<;>first|(cases e;done)|(simp only[VR] at hv ⊢;exact hv)
  ·cases h
theorem Nv{U:Nat}{t u:Tr AV}:∀{n:Nat},GX U t u n=true->∀i,i<n->∃a b,t.get i=some a/\u.get i=some b/\Fi U a b=true
 |0,_,i,hi=>by omega
 |n+1,h,i,hi=>by
  unfold GX at h;split at h
  ·rename_i a b e1 e2;obtain⟨q1,q2⟩:=and_true.1 h;by_cases q:i=n
   ·subst q;exact⟨a,b,e1,e2,q1⟩
   ·exact Nv q2 i ak
  ·cases h
theorem Tx{ρ:aw}(h:Fi U a b=true)(_:VR ρ a v):b.cj=true:=by
 unfold Fi at h;split at h
 ·rfl
 ·rfl
 ·rfl
 ·rfl
 ·split at h
  ·rename_i e;have:=sameKey_eq e;subst this;unfold sameKey at e;split at e<;>first|(cases e;done)|rfl
  ·cases h
theorem abB{N:Nat}{ρ:aw}{o p:ae}{o':Obj}(h:oK U o p=true)(hO:OR ρ N o o'):p.mW=true/\OR (fun k=>if k<U then ρ k else none) N p o':=by
 unfold oK at h;split at h
 ·rename_i m t n u;obtain⟨q1,q2⟩:=and_true.1 h;have e1:=eA.1 q1;subst e1;obtain⟨c,e,fr,rfl,h1,h2,row⟩:=hO;refine⟨rfl,c,e,fr,rfl,h1,h2,fun i hi=>?_⟩;obtain⟨x,v,a1,a2,a3,a4⟩:=row i hi;obtain⟨a,b,b1,b2,b3⟩:=Nv q2 i hi;rw[a1] at b1;cases b1;exact⟨b,v,b2,Tx b3 a4,a3,UQ b3 a4⟩
 ·rename_i m t n u;obtain⟨q1,q2⟩:=and_true.1 h;have e1:=eA.1 q1;subst e1;obtain⟨c,e,fr,rfl,row⟩:=hO;refine⟨rfl,c,e,fr,rfl,fun i hi=>?_⟩;obtain⟨x,v,a1,a2,a3,a4⟩:=row i hi;obtain⟨a,b,b1,b2,b3⟩:=Nv q2 i hi;rw[a1] at b1;cases b1;exact⟨b,v,b2,Tx b3 a4,a3,UQ b3 a4⟩
 ·cases h
theorem tB{U:Nat}{h0:Tr ae}:∀{ns:List Nat} {s s1:AS} {u:Unit},fe U h0 ns s= .ok u s1->s1.h=s.h/\s1.nx=s.nx/\∀n∈ns,n<s.nx/\∃o p,s.h.get n=some o/\h0.get n=some p/\oK U o p=true
 |[],s,s1,u,h=>by obtain⟨_,rfl⟩:=bH (show M.pure () s= .ok u s1 from h);exact⟨rfl,rfl,fun n hn=>by cases hn⟩
 |m::ns,s,s1,u,h=>by
  obtain⟨o,s2,h1,h2⟩:=M.aR (show((bw m).bind fun o=>aC (h0.get m) fun p=>aF (oK U o p) <| fe U h0 ns) s= .ok u s1 from h);obtain⟨a1,a2,a3,a4⟩:=fY h1;obtain⟨p,h3,h4⟩:=bu h2;obtain⟨h5,h6⟩:=cX h4;obtain⟨b1,b2,b3⟩:=tB h6;refine⟨b1.trans a3,b2.trans a4,fun n hn=>?_⟩;rcases List.mem_cons.1 hn with rfl|hn
  ·exact⟨a1,o,p,a2,h3,h5⟩
  ·obtain⟨c1,q1,q2,c2,c3,c4⟩:=b3 n hn;exact⟨by rw[←a4];exact c1,q1,q2,by rw[←a3];exact c2,c3,c4⟩
end Go.Rn
namespace Go.Rn
open Go.RowKit
section
variable {P:Program} {B:aJ} {ρ:aw} {w:World} {s s1:AS} {SI:aO}
end
end Go.Rn
namespace Go.Rn
open Go.RowKit
noncomputable section
end
section
variable {P:Program} {SI:aO}
end
end Go.Rn
namespace Go.Rn
open Go.RowKit
variable {k o n:Nat} {x:AV} {aQ:AF} {f:FuncId} {vs:Array Value} {j:Option Code} {fn:Func} {body:Code} {args:List AV} {F:Nat->Option (List AV)}
noncomputable section
def br.VM:br->Bool
 | .go _=>false
 | .leave _ _=>true
def pR(P:Program)(SI:aO)(fr:AF):M br:=fun s=> @dite (R br) (∃k,∃x s1,eg P SI k fr s= .ok x s1/\x.VM=true) (Classical.propDecidable _) (fun h=>eg P SI h.choose fr s) fun _=>.bad
def vH(P:Program)(f ntmps:Nat)(rs:List ResultVar)(body:Code)(SI:aO)(args:List AV):M AV:=
 aF (Nat.ble (max ntmps args.length) top) <|
 (pR P SI ⟨f,dZ args,max ntmps args.length,[.code body],[],none⟩).bind fun st=> @br.rec (fun _=>M AV) (fun _=>fail) (fun fr j=>finish P rs fr j) st
def xC(P:Program)(SI:aO)(l:Nat)(args:List AV):M AV:=(getLoop l).bind fun o=>match o with
 | .loop _ _ fn t nt ps a b _=>
  aF (and (Nat.beq args.length ps.length)<|ps.all fun p=>Nat.blt p nt) <|
  (pR P SI ⟨fn,je ps args t,nt,[.code a,.beginRound,.code b],[],some l⟩).bind fun st=> @br.rec (fun _=>M AV) (fun _=>fail) (fun _ j=>endRound l j) st
 |_=>fail
abbrev Sp:=FuncId->Option (aO->List AV->M AV)
def j0(P:Program)(sp:Sp)(f:FuncId):aO->List AV->M AV:=
 match sp f with
 |some m=>m
 |none=>match P.funcs[f]? with
  |none=>fun _ _=>fail
  |some fn=>match fn.body with
   |none=>fun _ _=>fail
   |some body=>match fn.name == "runtime.NumGoroutine" with
    |true=>fun _ _=>fail
    |false=>vH P f fn.ntmps fn.results.toList body
def rf(F:Nat->Option (List AV))(n o k:Nat):M AV:=aC (F n) fun l=>aF (Nat.ble (o+k) l.length) <| M.pure<|.agg<|(l.drop o).take k
def bg(P:Program)(sp:Sp)(F:Nat->Option (List AV)):Nat->aO
 |0=>fun t _=>match t with
  | .row n o k=>rf F n o k
  |_=>fail
 |n+1=>fun t args=>match t with
  | .fn f=>j0 P sp f (bg P sp F n) args
  | .round l=>xC P (bg P sp F n) l args
  | .row n o k=>rf F n o k
end
section
variable {P:Program} {B:aJ} {ρ:aw} {w:World} {s s1:AS} {SI:aO} {b:Frame} {a:Act} {cs:List Frame}
theorem Ua{fr:AF}:eg P SI (k+1) fr s=((jg P SI fr).bind fun x=> @br.rec (fun _=>M br) (eg P SI k) (fun fr j=>M.pure<|.leave fr j) x) s:=rfl
theorem BK{fr:AF}(h:jg P SI fr s= .ok (.go aQ) s1):eg P SI (k+1) fr s=eg P SI k aQ s1:=by rw[Ua,M.bN h]
theorem adx{fr:AF}(h:jg P SI fr s= .ok (.leave aQ j) s1):eg P SI (k+1) fr s= .ok (.leave aQ j) s1:=by rw[Ua,M.bN h];rfl
theorem NY:∀{k k':Nat} {fr aQ:AF} {j:Option Code} {s s1:AS},eg P SI k fr s= .ok (.leave aQ j) s1->k<=k'->eg P SI k' fr s= .ok (.leave aQ j) s1
 |0,_,_,_,_,_,_,h,_=>by cases h
 |k+1,0,_,_,_,_,_,_,hk=>by omega
 |k+1,k'+1,fr,aQ,j,s,s1,h,hk=>by
  obtain⟨y,s2,h1,h2⟩:=M.aR (show((jg P SI fr).bind fun x=> @br.rec (fun _=>M br) (eg P SI k) (fun fr j=>M.pure<|.leave fr j) x) s= .ok _ s1 from h);cases y with
  |go qw=>rw[BK h1];exact NY (show eg P SI k qw s2=_ from h2) ak
  |leave qw j'=>rw[adx h1];exact h2
theorem JB{fr:AF}(h:eg P SI k fr s= .ok (.leave aQ j) s1):pR P SI fr s= .ok (.leave aQ j) s1:=by
 have hex:∃k,∃x s1,eg P SI k fr s= .ok x s1/\x.VM=true:=⟨k,_,_,h,rfl⟩;unfold pR;rw[dif_pos hex];obtain⟨x,s2,h1,h2⟩:=hex.choose_spec;cases x with
 |go _=>cases h2
 |leave kl j2=>have e1:=NY h1<|Nat.le_max_left hex.choose k;have e2:=NY h<|Nat.le_max_right hex.choose k;rw[e1] at e2;rw[h1,e2]
theorem Ty{fr:AF}{x:br}(h:pR P SI fr s= .ok x s1):∃k aQ j,x= .leave aQ j/\eg P SI k fr s= .ok (.leave aQ j) s1:=by
 unfold pR at h;split at h
 ·rename_i hex;obtain⟨y,s2,h1,h2⟩:=hex.choose_spec;cases y with
  |go _=>cases h2
  |leave kl j2=>rw[h1] at h;cases h;exact⟨_,kl,j2,rfl,h1⟩
 ·cases h
theorem SH.pR(P:Program){SI:aO}(hl:∀t a,SH<|SI t a)(fr:AF):SH<|pR P SI fr:=by intro s v s1 fi h;obtain⟨k,aQ,j,rfl,h1⟩:=Ty h;obtain⟨dr,dw,d,al⟩:=SH.eg P hl k fr s _ s1 fi h1;refine⟨dr,dw,d,fun A m0 t ag hA=>?_⟩;obtain⟨t1,e1,e2⟩:=al A m0 t ag hA;exact⟨t1,JB e1,e2⟩
theorem SH.vH(P:Program)(f n:Nat)(rs:List ResultVar)(body:Code){SI:aO}(bI:∀t a,SH<|SI t a)(args:List AV):SH<|vH P f n rs body SI args:=
 SH.aF (fun _=>SH.bind (SH.pR P bI _) (fun x=>by
  cases x with
  |go fr=>exact SH.fail
  |leave fr j=>exact SH.finish P rs fr j))
theorem SH.xC(P:Program){SI:aO}(bI:∀t a,SH<|SI t a)(l:Nat)(args:List AV):SH<|xC P SI l args:=by
 unfold Rn.xC;refine SH.bind (SH.getLoop _) fun o=>?_;split
 ·exact SH.aF fun _=>SH.bind (SH.pR P bI _) (fun x=>by
   cases x with
   |go fr=>exact SH.fail
   |leave fr j=>exact SH.endRound l j)
 ·exact SH.fail
structure LW (P:Program) (B:aJ) (sp:Sp):Prop where
 loc:∀f m,sp f=some m->∀SI:aO,(∀t a,SH<|SI t a)->∀args,SH<|m SI args
 FZ:∀f m,sp f=some m->∀SI:aO,fR P B SI->(∀t a,SH<|SI t a)->∀(args:List AV) (x:AV) (s s1:AS) (ρ:aw) (w:World) (vs:Array Value),bE s->Rel B ρ s.h w->gk ρ->dJ s.nx s1.nx ρ->
  m SI args s= .ok x s1->az ρ args vs.toList->jo P ((callFunc f vs).run P w) (kg B ρ s s1 w x)
theorem tX{sp:Sp}{m:aO->List AV->M AV}(h:sp f=some m):j0 P sp f=m:=by unfold j0;rw[h]
theorem OK{sp:Sp}(h:sp f=none)(ch:P.funcs[f]? =some fn)(cw:fn.body=some body)(dD:(fn.name == "runtime.NumGoroutine")=false):j0 P sp f=vH P f fn.ntmps fn.results.toList body:=by unfold j0;simp only[h,ch,cw,dD]
theorem Ub(sp:Sp)(f:FuncId):(∃m,sp f=some m/\j0 P sp f=m)\/(j0 P sp f=fun _ _=>fail)\/(∃fn body,P.funcs[f]? =some fn/\fn.body=some body/\(fn.name == "runtime.NumGoroutine")=false/\j0 P sp f=vH P f fn.ntmps fn.results.toList body):=by
 cases e:sp f with
 |some m=>exact .inl ⟨m,rfl,tX e⟩
 |none=>
  cases e1:P.funcs[f]? with
  |none=>refine .inr<|.inl ?_;unfold j0;simp only[e,e1]
  |some fn=>
   cases e2:fn.body with
   |none=>refine .inr<|.inl ?_;unfold j0;simp only[e,e1,e2]
   |some body=>
    cases e3:(fn.name == "runtime.NumGoroutine") with
    |true=>refine .inr<|.inl ?_;unfold j0;simp only[e,e1,e2,e3]
    |false=>exact .inr<|.inr ⟨fn,body,rfl,e2,e3,OK e e1 e2 e3⟩
theorem acq(P:Program){sp:Sp}(hs:LW P B sp)(f:FuncId){SI:aO}(hl:∀t a,SH<|SI t a)(args:List AV):SH<|j0 P sp f SI args:=by
 rcases Ub (P:=P) sp f with⟨m,e1,e2⟩|e|⟨fn,body,e1,e2,e3,e⟩
 ·rw[e2];exact hs.loc f m e1 SI hl args
 ·rw[e];exact SH.fail
 ·rw[e];exact SH.vH P _ _ _ _ hl _
theorem SH.rf(F:Nat->Option (List AV))(n o k:Nat):SH<|rf F n o k:=SH.aC fun _ _=>SH.aF fun _=>SH.pure _
theorem DL(P:Program){sp:Sp}(hs:LW P B sp)(F:Nat->Option (List AV)):∀(n:Nat) (t:Io) (args:List AV),SH (bg P sp F n t args)
 |0,.fn _,_=>SH.fail
 |0,.round _,_=>SH.fail
 |0,.row n o k,_=>SH.rf F n o k
 |n+1,.fn f,args=>acq P hs f (fun t a=>DL P hs F n t a) args
 |n+1,.round l,args=>SH.xC P (fun t a=>DL P hs F n t a) l args
 |_+1,.row n o k,_=>SH.rf F n o k
theorem WU{ρ:aw}{c:Array Value}:∀{l:List AV} {off:Nat},(∀(i:Nat) (x:AV),l[i]? =some x->∃v,c[off+i]? =some v/\VR ρ x v)->∃vs:List Value,vs.length=l.length/\az ρ l vs/\∀(j:Nat) (v:Value),vs[j]? =some v->c[off+j]? =some v
 |[],off,_=>⟨[],rfl,by simp only[az],fun j v h=>by simp at h⟩
 |x::l,off,h=>by
  obtain⟨v,h1,h2⟩:=h 0 x rfl;obtain⟨vs,g1,g2,g3⟩:=WU (l:=l) (off:=off+1) (fun i y hy=>by obtain⟨u,k1,k2⟩:=h (i+1) y (by simpa using hy);exact⟨u,by rw[Nat.add_assoc,Nat.add_comm 1 i];exact k1,k2⟩);refine⟨v::vs,by simp[g1],by simp only[az];exact⟨v,vs,rfl,h2,g2⟩,fun j u hj=>?_⟩;cases j with
  |zero=>simp at hj;subst hj;simpa using h1
  |succ j=>have:=g3 j u (by simpa using hj);rw[Nat.add_assoc,Nat.add_comm 1 j] at this;exact this
theorem ady(h:rf F n o k s= .ok x s1):s1=s/\∃l,F n=some l/\o+k<=l.length/\x= .agg ((l.drop o).take k):=by unfold rf at h;obtain⟨l,h1,h2⟩:=bu h;obtain⟨h3,h4⟩:=cX h2;obtain⟨rfl,rfl⟩:=bH h4;exact⟨rfl,l,h1,aL.1 h3,rfl⟩
theorem UR(hF:B.F=F)(r:Rel B ρ s.h w)(h:rf F n o k s= .ok x s1):
 s1.h=s.h/\s1.nx=s.nx/\∀b sh,ρ (hn n b sh)≠none->∃l vs,x= .agg l/\vs.length=k/\az ρ l vs/\∃c e fr,w.heap[b]? =some (.cells c e fr)/\∀(j:Nat) (v:Value),vs[j]? =some v->c[sh+o+j]? =some v:=by
 obtain⟨rfl,l,h1,h2,rfl⟩:=ady h;rw[←hF] at h1;refine⟨rfl,rfl,fun b sh hb=>?_⟩;obtain⟨_,l',c,e,fr,g1,g2,_,g4⟩:=r.fz n b sh hb;rw[h1] at g1;cases g1;obtain⟨vs,q1,q2,q3⟩:=WU (ρ:=ρ) (c:=c) (l:=(l.drop o).take k) (off:=sh+o) (fun i y hy=>by
  have wM:l[o+i]? =some y:=by
   rw[List.getElem?_take] at hy;split at hy
   ·rw[List.getElem?_drop] at hy;exact hy
   ·cases hy
  obtain⟨v,k1,k2,_⟩:=g4 (o+i) y wM;exact⟨v,by rw[Nat.add_assoc];exact k1,VR.mono (G9 ρ) _ _ k2⟩)
 refine⟨_,vs,rfl,?_,q2,c,e,fr,g2,q3⟩;rw[q1,List.length_take,List.length_drop];omega
theorem Tz(bT:P.follows .mixedOrders=true)(hc:fR P B SI)(hl:∀t a,SH<|SI t a){af:AF}{x:br}(bG:Fr ρ af b a)(ay:At B ρ s af.nt af.tmps w a)(hf:dJ s.nx s1.nx ρ)(h:pR P SI af s= .ok x s1):ma P B ρ s s1 w af b cs (lone (b.atR a af.todo) cs w) x:=by obtain⟨k,aQ,j,rfl,h1⟩:=Ty h;exact JM bT hc hl k bG ay hf h1
theorem acr(bT:P.follows .mixedOrders=true)(hc:fR P B SI)(hl:∀t a,SH<|SI t a)(ch:P.funcs[f]? =some fn)(cw:fn.body=some body)(dD:(fn.name == "runtime.NumGoroutine")=false)(dm:iD body)(fi:bE s)(r:Rel B ρ s.h w)(hg:gk ρ)(hf:dJ s.nx s1.nx ρ)(h:vH P f fn.ntmps fn.results.toList body SI args s= .ok x s1)(hv:az ρ args vs.toList):jo P ((callFunc f vs).run P w)<|kg B ρ s s1 w x:=by
 have bI:(callFunc f vs).run P w= .ok (.enter f vs) w:=by
  have Hz:(program).run P w= .ok P w:=rfl;have hn:fn.name≠ "runtime.NumGoroutine" :=by simpa using dD
  simp only[callFunc,Sem.run_bind,Hz,Result.andThen_ok,ch,dD,cw];simp
 rw[bI];unfold vH at h;obtain⟨h1,h2⟩:=cX h;have pd:=aL.1 h1;obtain⟨y,s2,h3,h4⟩:=M.aR h2;cases y with
 |go fr=>cases h4
 |leave fr j=>have IE:finish P fn.results.toList fr j s2= .ok x s1:=h4;have dH:=(SH.pR P hl ⟨f,dZ args,max fn.ntmps args.length,[.code body],[],none⟩).cG fi h3;have C4:=(SH.finish P fn.results.toList fr j).le dH IE;exact SP ch cw dH (fun cs=>Tz (b:={(default:Frame) with fn:=f,kind:=.normal,roundOf:=none}) (a:={tmps:=vs++Array.replicate (fn.ntmps - vs.size) undef,defers:=[]}) bT hc hl ⟨rfl,rfl,trivial,rfl,.cons dm .nil⟩ ⟨Je hv _ pd,r,hg,pd,fi⟩ (hf.sub (Nat.le_refl _) C4) h3) IE
theorem abC(bT:P.follows .mixedOrders=true)(hc:fR P B SI)(hl:∀t a,SH<|SI t a){l bl N:Nat}(fi:bE s)(r:Rel B ρ s.h w)(hg:gk ρ)(hf:dJ s.nx s1.nx ρ)(h:xC P SI l args s= .ok x s1)(hv:az ρ args vs.toList)(C5:ρ l=some (bl,N)):jo P ((Instr.yield bl vs).run P w)<|kg B ρ s s1 w x:=by
 unfold xC at h;obtain⟨o,s2,h1,h2⟩:=M.aR h;obtain⟨h3,st,bS,fn,t,nt,ps,aa,bb,d,rfl⟩:=DK h1;obtain⟨h4,h5⟩:=cX h2;obtain⟨y,s3,h6,h7⟩:=M.aR h5;obtain⟨q1,q2⟩:=and_true.1 h4;have hlen:=eA.1 q1;have RF:∀p∈ps,p<nt:=fun p hp=>by have:=List.all_eq_true.1 q2 p hp;rw[←blt_eq];exact this
 obtain⟨hx,kh,hh,cJ⟩:=fY h3;have dH:bE s2:=(SH.bw _).cG fi h3;have cF:l<top:=Nat.lt_of_lt_of_le hx fi.nx;obtain⟨o',hb,hO,hB⟩:=r.block cF kh C5;obtain⟨ta,db,M,rfl,yZ,iX,hd,gI⟩:=hO;have PK:(Instr.yield bl vs).run P w= .ok (.round bl fn ((ps.zip vs.toList).foldl (fun tmps (t,a)=>tmps.setIfInBounds t a) ta) aa bb) w:=by
  have lv:¬(vs.size≠ps.toArray.size):=by have:=hv.length;simp at this ⊢;omega
  simp only[Instr.yield,Sem.run_bind,DG hb,Result.andThen_ok,if_neg lv,Sem.run_pure];rw[←Array.foldl_toList];simp
 rw[PK];intro c cs;cases y with
 |go fr=>cases h7
 |leave fr j=>
  have C2:endRound l j s3= .ok x s1:=h7;let b:Frame:={(default:Frame) with fn:=fn,kind:=.normal,roundOf:=some bl};let a:Act:={tmps:=(ps.zip vs.toList).foldl (fun tmps (t,a)=>tmps.setIfInBounds t a) ta,defers:=[]};have ju:=(SH.pR P hl ⟨fn,je ps args t,nt,[.code aa,.beginRound,.code bb],[],some l⟩).cG dH h6;have C6:=(SH.endRound l j).le ju C2;have bG:Fr ρ ⟨fn,je ps args t,nt,[.code aa,.beginRound,.code bb],[],some l⟩ b a:=⟨rfl,rfl,⟨N,C5⟩,rfl,.cons gI.assign<|.cons trivial<|.cons gI.body .nil⟩;have ay:At B ρ s2 nt (je ps args t) w a:=⟨Nj iX yZ hv RF,by rw[hh];exact r,hg,iX,dH⟩;obtain⟨σ,a',w',e1,e2,e3,e4,_,_,e6,e7⟩:=Tz (cs:=c::cs) bT hc hl bG ay (by rw[cJ];exact hf.sub (Nat.le_refl _) C6) h6;have iY:Leaves j fr.todo:=e6;obtain⟨f1,rfl,nE,f2,f3,f4⟩:=S0 (P:=P) ju e2.rel (e1.le _ _ C5) iY.code C2;refine⟨.bool j.isNone,nE,⟨σ,by rw[f1, ←cJ];exact e1,by simp only[VR],f3,e4.trans f4⟩,?_⟩;have xZ:Frame.round bl fn ((ps.zip vs.toList).foldl (fun tmps (t,a)=>tmps.setIfInBounds t a) ta) aa bb .normal=b.atR a [.code aa,.beginRound,.code bb]:=rfl;rw[xZ];refine Steps.trans e7<|.one ?_;show step P (lone (b.atR a' fr.todo) (c::cs) w')=_;unfold Leaves at iY;split at iY
  ·rw[iY];exact stepR_round_end rfl rfl f2
  ·obtain⟨k,e⟩:=iY;rw[e];exact stepR_round_ret rfl rfl f2
  ·obtain⟨k,e,e'⟩:=iY;rw[e];exact stepR_round_exit rfl rfl e' f2
  ·obtain⟨k,e,e'⟩:=iY;rw[e];exact stepR_round_goto rfl rfl e' f2
  ·cases iY
theorem Uc(hP:bB P){sp:Sp}(hs:LW P B sp){F:Nat->Option (List AV)}(hF:B.F=F):∀(n:Nat),fR P B (bg P sp F n)
 |0=>⟨(fun f args x s s1 ρ w vs _ _ _ _ h _=>by cases h),(fun l b N args x s s1 ρ w vs _ _ _ _ h _ _=>by cases h),(fun n o k x s s1 ρ w _ r h=>UR hF r h)⟩
 |n+1=>by
  have ih:=Uc hP hs hF n;refine⟨fun f args x s s1 ρ w vs fi r hg hf h hv=>?_,fun l b N args x s s1 ρ w vs fi r hg hf h hv hl=>abC hP.mixed ih (DL P hs F n) fi r hg hf h hv hl,(fun n o k x s s1 ρ w _ r h=>UR hF r h)⟩;have h':j0 P sp f (bg P sp F n) args s= .ok x s1:=h;rcases Ub (P:=P) sp f with⟨m,e1,e2⟩|e|⟨fn,body,e1,e2,e3,e⟩
  ·rw[e2] at h';exact hs.FZ f m e1 _ ih (DL P hs F n) args x s s1 ρ w vs fi r hg hf h' hv
  ·rw[e] at h';cases h'
  ·rw[e] at h';exact acr hP.mixed ih (DL P hs F n) e1 e2 e3 (hP.code f fn body e1 e2) fi r hg hf h' hv
end
end Go.Rn
namespace Go.Rn
open Go.RowKit
variable {r:Nat->Nat} {k:Nat} {σ:aw}
def bz(r:Nat->Nat)(x y:AV):Prop:=∀(ρ:aw) (v:Value),VR ρ x v->VR (fun k=>ρ<|r k) y v
def sk(r:Nat->Nat)(x y:ae):Prop:=∀(ρ:aw) (N:Nat) (o:Obj),OR ρ N x o->OR (fun k=>ρ<|r k) N y o
def av(P:Program)(B:aJ)(U:Nat)(Q:Tr AV->List Nat->Option Code->AS->Prop)(fr:AF)(s:AS):Prop:=∀(ρ:aw) (w:World) (b:Frame) (a:Act) (cs:List Frame),Fr ρ fr b a->At B ρ s fr.nt fr.tmps w a->(∀k,s.nx<=k->k<top->ρ k=none)->∃(aQ:AF) (j:Option Code) (s1:AS) (σ:aw) (a':Act) (w':World),Q aQ.tmps aQ.defers j s1/\U<=s1.nx/\(∀k,k<U->k<top->σ k=ρ k)/\(∀k x,top<=k->ρ k=some x->σ k=some x)/\(∀k,s1.nx<=k->k<top->σ k=none)/\At B σ s1 fr.nt aQ.tmps w' a'/\wu σ aQ.defers a'.defers/\cP B w w'/\(aQ.fn=fr.fn/\aQ.nt=fr.nt/\aQ.round=fr.round)/\jz aQ.todo/\Leaves j aQ.todo/\Steps P (lone (b.atR a fr.todo) cs w) (lone (b.atR a' aQ.todo) cs w')
section
variable {P:Program} {B:aJ} {U:Nat} {Q:Tr AV->List Nat->Option Code->AS->Prop} {ρ:aw} {w:World} {s s1 s2:AS} {SI:aO} {fr aQ:AF} {j:Option Code}
theorem av.chunk(bT:P.follows .mixedOrders=true)(hc:fR P B SI)(hl:∀t a,SH<|SI t a)(h:eg P SI k fr s= .ok (.go aQ) s1)(h0:U<=s.nx)(H:av P B U Q aQ s1):av P B U Q fr s:=by intro ρ w b a cs bG ay hf;have lu:=(SH.eg P hl k fr).le ay.cG h;have RA:=((SH.eg P hl k fr).cG ay.cG h).nx;obtain⟨σ,a1,w1,e1,e2,e3,e4,⟨e5,e6,e7⟩,e8,_,e9⟩:=JM (b:=b) (cs:=cs) bT hc hl k bG ay (fun k h1 _ h3=>hf k h1 h3) h;have FY:aQ.fn=fr.fn:=e5;have iY:aQ.nt=fr.nt:=e6;have qv:aQ.round=fr.round:=e7;obtain⟨kl,j,s2,τ,a2,w2,q0,qn,q1,IF,q2,q3,q4,q5,⟨q6,q7,q8⟩,q9,RM,RN⟩:=H σ w1 b a1 cs ⟨bG.fn.trans FY.symm,bG.kind,by rw[qv];exact bG.round.mono e1.le,e3,e8⟩ (by rw[iY];exact e2) fun k hk ht=>(e1.out k ht ak).trans<|hf k ak ht;exact⟨kl,j,s2,τ,a2,w2,q0,qn,fun k hk gw=>(q1 k hk gw).trans<|e1.out k gw ak,fun k x hk hx=>IF k x hk<|e1.le _ _ hx,q2,by rw[←iY];exact q3,q4,e4.trans q5,⟨q6.trans FY,q7.trans iY,q8.trans qv⟩,q9,RM,Steps.trans e9 RN⟩
theorem av.leave(bT:P.follows .mixedOrders=true)(hc:fR P B SI)(hl:∀t a,SH<|SI t a)(h:eg P SI k fr s= .ok (.leave aQ j) s1)(h0:U<=s.nx)(hq:Q aQ.tmps aQ.defers j s1):av P B U Q fr s:=by intro ρ w b a cs bG ay hf;have lu:=(SH.eg P hl k fr).le ay.cG h;have RA:=((SH.eg P hl k fr).cG ay.cG h).nx;obtain⟨σ,a1,w1,e1,e2,e3,e4,⟨e5,e6,e7⟩,e8,e10,e9⟩:=JM (b:=b) (cs:=cs) bT hc hl k bG ay (fun k h1 _ h3=>hf k h1 h3) h;exact⟨aQ,j,s1,σ,a1,w1,hq,Nat.le_trans h0 lu,fun k hk gw=>e1.out k gw ak,fun k x _ hx=>e1.le _ _ hx,fun k hk ht=>(e1.out k ht ak).trans<|hf k ak ht,e2,e3,e4,⟨e5,e6,e7⟩,e8,e10,e9⟩
abbrev lL:=List<|Nat×Nat×List AV
def Marks(fz:lL)(ρ fA:aw):Prop:=ρ.le fA/\(∀k,k<top->fA k=ρ k)/\∀p∈fz,∀b N,ρ p.1=some (b,N)->fA (hn p.2.1 b 0)≠none
open Classical in
noncomputable def marks(fz:lL)(ρ:aw):aw:=fun k=>if ρ k=none/\∃p∈fz,∃b N,ρ p.1=some (b,N)/\k=hn p.2.1 b 0 then some (0,0) else ρ k
theorem US(fz:lL)(ρ:aw):Marks fz ρ<|marks fz ρ:=by
 refine⟨fun k x e=>?_,fun k hk=>?_,fun p hp b N e=>?_⟩
 ·unfold marks;rw[if_neg (fun q=>by rw[e] at q;cases q.1)];exact e
 ·unfold marks;rw[if_neg (fun⟨_,p,_,b,N,_,q⟩=>by have:=gg p.2.1 b 0;omega)]
 ·unfold marks;by_cases q:ρ (hn p.2.1 b 0)=none
  ·rw[if_pos ⟨q,p,hp,b,N,e,rfl⟩];exact fun h=>by cases h
  ·rw[if_neg fun z=>q z.1];exact q
theorem Ud{fz:lL}{ρ:aw}(h:marks fz ρ k≠none):ρ k≠none\/∃p∈fz,∃b N,ρ p.1=some (b,N)/\k=hn p.2.1 b 0:=by
 unfold marks at h;split at h
 ·rename_i q;exact .inr q.2
 ·exact .inl h
def lH(fz:lL)(r:Nat->Nat)(x y:AV):Prop:=∀(ρ fA:aw) (v:Value),Marks fz ρ fA->VR ρ x v->VR (fun k=>fA<|r k) y v
def fI(fz:lL)(r:Nat->Nat)(x y:ae):Prop:=∀(ρ fA:aw) (N:Nat) (o:Obj),Marks fz ρ fA->OR ρ N x o->OR (fun k=>fA<|r k) N y o
theorem bz.z{fz:lL}{x y:AV}(h:bz r x y):lH fz r x y:=fun ρ fA v m hv=>h fA v<|VR.mono m.1 _ _ hv
theorem sk.z{fz:lL}{x y:ae}(h:sk r x y):fI fz r x y:=fun ρ fA N o m hv=>h fA N o<|hv.mono m.1
def Xv(F:Nat->Option (List AV))(h:Tr ae)(p:Nat×Nat×List AV):Prop:=p.1<top/\F p.2.1=some p.2.2/\∃N t z,h.get p.1=some (.cells N t z)/\∀i x,p.2.2[i]? =some x->i<N/\cellAt t z i=some x/\x.cj=true/\∀ρ v,VR ρ x v->VR (gq ρ) x v
def yC(l:List<|AV×AV):Prop:=∀p∈l,∃a b,p=(.int .i64 a,.int .i64 b)
def Xw(r:Nat->Nat)(h h2:Tr ae)(n:Nat)(o2:ae):Prop:=o2.lZ=true\/(r n=n/\h.get n=some o2/\match o2 with
 | .jP=>True
 | .iter m es _ left cur=>r m=m/\h2.get m=some .jP/\yC es/\yC left/\∀x,cur=some x->yC [x]
 |_=>False)
theorem PM{ρ:aw}{l:List<|AV×AV}(hl:yC l){p:AV×AV}(hp:p∈l){a b:Value}(h1:VR ρ p.1 a)(h2:VR ρ p.2 b):VR σ p.1 a/\VR σ p.2 b:=by obtain⟨x,y,rfl⟩:=hl p hp;simp only[VR] at h1 h2 ⊢;exact⟨h1,h2⟩
theorem VN{ρ σ:aw}:∀{l:List<|AV×AV} {es:List MapEntry} {i:Nat},yC l->jX ρ l es i->jX σ l es i
 |[],_,_,_,k=>k
 |x::l,_,i,hl,k=>by obtain⟨e,es,r,a,b,c,d⟩:=k;obtain⟨a',b'⟩:=PM hl List.mem_cons_self a b;exact⟨e,es,r,a',b',c,VN (fun p hp=>hl p<|List.mem_cons_of_mem _ hp) d⟩
theorem Pe{ρ σ:aw}:∀{l:List<|AV×AV} {es:List MapEntry},yC l->dW ρ l es->dW σ l es
 |[],_,_,k=>k
 |x::l,_,hl,k=>by obtain⟨e,es,r,a,b,d⟩:=k;obtain⟨a',b'⟩:=PM hl List.mem_cons_self a b;exact⟨e,es,r,a',b',Pe (fun p hp=>hl p<|List.mem_cons_of_mem _ hp) d⟩
theorem acs{ρ:aw}{w:World}{n m:Nat}{es left:List<|AV×AV}{ex:Bool}{cur:Option<|AV×AV}(k:np ρ w n m es ex left cur)(e1:σ n=ρ n)(e2:σ m=ρ m)(q1:yC es)(q2:yC left)(q3:∀x,cur=some x->yC [x]):np σ w n m es ex left cur:=by
 obtain⟨b,N,bm,M,l,bj,seen,h1,h2,h3,h4,h5,h6,h7,⟨l',h8,h8'⟩,h9⟩:=k;refine⟨b,N,bm,M,l,bj,seen,e1.trans h1,e2.trans h2,h3,h4,h5,fun e=>⟨(h6 e).1,VN q1 (h6 e).2⟩,fun e=>⟨(h7 e).1,?_⟩,⟨l',h8,Pe q2 h8'⟩,?_⟩
 ·obtain⟨l2,a,b⟩:=(h7 e).2;exact⟨l2,a,Pe q1 b⟩
 ·cases cur with
  |none=>exact h9
  |some x=>obtain⟨e,a,b,c,d⟩:=h9;obtain⟨c',d'⟩:=PM (q3 x rfl) List.mem_cons_self c d;exact⟨e,a,b,c',d'⟩
theorem Rel.ajV{B:aJ}{ρ:aw}{h h2:Tr ae}{w:World}(fz:lL)(R:Rel B ρ h w)(Da:∀k,top<=k->r k=k)(hz:∀p∈fz,Xv B.F h p)(hh:∀n o2,n<top->h2.get n=some o2->r n<top/\Xw r h h2 n o2/\∃o1,h.get (r n)=some o1/\fm o1 o2/\fI fz r o1 o2)(yn:∀p∈fz,∀n o2,n<top->h2.get n=some o2->r n≠p.1)(Fj:∀n m o p,n<top->m<top->h2.get n=some o->h2.get m=some p->r n=r m->n=m):Rel B (fun k=>marks fz ρ<|r k) h2 w:=by
 have hm:=US fz ρ;refine⟨fun n o hn hg=>?_,fun n m o p b N M hn eD hg ly cZ e1 e2=>?_,fun n m es ex left cur hn hg=>?_,R.size,fun i j m es ex left cur hJ iW iK iL hi wP hg ly=>?_,fun n b sh e=>?_,?_⟩
 ·obtain⟨a1,_,o1,a3,a4,a5⟩:=hh n o hn hg;obtain⟨b,N,o',b1,b2,b3,b4⟩:=R.is (r n) o1 a1 a3;exact⟨b,N,o',(hm.2.1 _ a1).trans b1,b2,a5 ρ _ N o' hm b3,fun q=>b4<|a4.1 q⟩
 ·obtain⟨a1,_,o1,a3,a4,_⟩:=hh n o hn hg;obtain⟨c1,_,p1,c3,c4,_⟩:=hh m p eD ly;have e1:marks fz ρ (r n)=some (b,N):=e1;have e2:marks fz ρ (r m)=some (b,M):=e2;rw[hm.2.1 _ a1] at e1;rw[hm.2.1 _ c1] at e2;exact Fj n m o p hn eD hg ly<|R.one (r n) (r m) o1 p1 b N M a1 c1 a3 c3 (cZ.imp a4.1 c4.1) e1 e2
 ·rcases(hh n _ hn hg).2.1 with q|⟨q1,q2,q3,q4,q5,q6,q7⟩
  ·simp[ae.lZ] at q
  ·obtain⟨i1,i2,i3⟩:=R.iter n m es ex left cur hn q2;exact⟨i1,q4,acs i3 (by show marks fz ρ (r n)=_;rw[q1];exact hm.2.1 n hn) (by show marks fz ρ (r m)=_;rw[q3];exact hm.2.1 m i1) q5 q6 q7⟩
 ·rcases(hh i _ hi hg).2.1 with q|⟨_,q2,_⟩
  ·simp[ae.lZ] at q
  ·rcases(hh j _ wP ly).2.1 with q'|⟨_,RP,_⟩
   ·simp[ae.lZ] at q'
   ·exact R.lone i j m es ex left cur hJ iW iK iL hi wP q2 RP
 ·have e:marks fz ρ (r<|hn n b sh)≠none:=e;rw[Da _<|gg _ _ _] at e;have hle:(gq ρ).le<|gq fun k=>marks fz ρ<|r k:=by
   intro k x e;unfold gq at e ⊢;split at e
   ·rename_i q;rw[if_pos q];show marks fz ρ (r k)=some x;rw[Da k q];exact hm.1 _ _ e
   ·cases e
  rcases Ud e with e|⟨p,hp,b',N,e1,e2⟩
  ·obtain⟨g0,l,c,e',fr,g1,g3,g4,g5⟩:=R.fz n b sh e;refine⟨g0,l,c,e',fr,g1,g3,fun m o N eD hg cH hr=>?_,fun i x hx=>by obtain⟨v,k1,k2,k3⟩:=g5 i x hx;exact⟨v,k1,VR.mono hle _ _ k2,k3⟩⟩;obtain⟨a1,_,o1,a3,a4,_⟩:=hh m o eD hg;exact g4 (r m) o1 N a1 a3 (a4.1 cH) (by have hr:marks fz ρ (r m)=_:=hr;rw[hm.2.1 _ a1] at hr;exact hr)
  ·obtain⟨rfl,rfl,rfl⟩:=Kr e2;obtain⟨z1,z2,N0,t,z,z3,z4⟩:=hz p hp;obtain⟨b1,N1,o',k1,k2,k3,k4⟩:=R.is p.1 _ z1 z3;rw[e1] at k1;cases k1;obtain⟨c,et,rfl,_,_,row⟩:=k3;refine⟨.inr<|k4 rfl,p.2.2,c,et,_,z2,k2,fun m o M eD hg cH hr=>?_,fun i x hx=>?_⟩
   ·obtain⟨a1,_,o1,a3,a4,_⟩:=hh m o eD hg;have hr:marks fz ρ (r m)=_:=hr;rw[hm.2.1 _ a1] at hr;exact yn p hp m o eD hg<|R.one (r m) p.1 o1 _ _ _ _ a1 z1 a3 z3 (.inl<|a4.1 cH) hr e1
   ·obtain⟨i1,i2,i3,i4⟩:=z4 i x hx;obtain⟨x',v,j1,j2,j3,j4⟩:=row i i1;rw[i2] at j1;cases j1;exact⟨v,by rw[Nat.zero_add];exact j3,VR.mono hle _ _<|i4 _ _ j4,i3⟩
 ·obtain⟨k0,H,k1,k2⟩:=R.tk;have hle:∀m x,top<=m->ρ m=some x->marks fz ρ (r m)=some x:=fun m x jt e=>by rw[Da m jt];exact hm.1 _ _ e
  have tok:∀n k v,n<top->h2.get n=some (.tok k v)->r n<top/\h.get (r n)=some (.tok k v):=fun n k v hn hg=>by obtain⟨a1,_,o1,a3,a4,_⟩:=hh n _ hn hg;rw[a4.2.1 rfl] at a3;exact⟨a1,a3⟩
  refine⟨⟨k0.1,fun n o hn hg hf=>?_⟩,fun n=>H<|r n,fun n k v hn hg=>?_,fun n m x k v k' v' hn eD g1 g2 cz=>?_⟩
  ·obtain⟨a1,_,o1,a3,a4,a5⟩:=hh n o hn hg;obtain⟨b,N,e1,e2⟩:=k0.2 (r n) o1 a1 a3<|a4.2.2 hf;exact⟨b,N,(hm.2.1 _ a1).trans e1,e2⟩
  ·obtain⟨a1,a2⟩:=tok n k v hn hg;obtain⟨b,N,c1,c2,c3,c4⟩:=k1 (r n) k v a1 a2;refine⟨b,N,(hm.2.1 _ a1).trans c1,B.mono c2 hle fun _ _=>rfl,c3,fun x hx=>?_⟩;obtain⟨d1,d2,d3,d4⟩:=c4 x hx;refine⟨d1,d2,fun m o M eD ly cH hr=>?_,fun j sh=>?_⟩
   ·obtain⟨e1,_,o1,e3,e4,_⟩:=hh m o eD ly;exact d3 (r m) o1 M e1 e3 (e4.1 cH) (by have hr:marks fz ρ (r m)=_:=hr;rw[hm.2.1 _ e1] at hr;exact hr)
   ·show marks fz ρ (r<|Rn.hn j x sh)=none;rw[Da _<|gg _ _ _];refine Classical.byContradiction fun q=>?_;rcases Ud q with q|⟨p,hp,b',N',e1,e2⟩
    ·exact q<|d4 j sh
    ·obtain⟨_,rfl,_⟩:=Kr e2;obtain⟨z1,_,N0,t,z,z3,_⟩:=hz p hp;exact d3 p.1 _ N' z1 z3 rfl e1
  ·obtain⟨a1,a2⟩:=tok n k v hn g1;obtain⟨a3,a4⟩:=tok m k' v' eD g2;exact k2 (r n) (r m) x k v k' v' a1 a3 a2 a4 fun e=>cz<|Fj n m _ _ hn eD g1 g2 e
theorem av.weaken{t2:Tr AV}(fz:lL)(r:Nat->Nat)(h0:∀k,k<U->r k=k)(h1:∀k,s2.nx<=k->k<top->s.nx<=r k/\r k<top)(Da:∀k,top<=k->r k=k)(hg:fH<=U)(hf2:bE s2)(hd:fr.defers=[])(hr:fr.round=none)(hz:∀p∈fz,Xv B.F s.h p)(ht:∀i y,t2.get i=some y->∃x,fr.tmps.get i=some x/\lH fz r x y)(hh:∀n o2,n<top->s2.h.get n=some o2->r n<top/\Xw r s.h s2.h n o2/\∃o1,s.h.get (r n)=some o1/\fm o1 o2/\fI fz r o1 o2)(yn:∀p∈fz,∀n o2,n<top->s2.h.get n=some o2->r n≠p.1)(Fj:∀n m o p,n<top->m<top->s2.h.get n=some o->s2.h.get m=some p->r n=r m->n=m)(H:av P B U Q {fr with tmps:=t2} s2):av P B U Q fr s:=by
 intro ρ w b a cs bG ay hf;have hm:=US fz ρ;have nR:Hc (fun k=>marks fz ρ<|r k) fr.round b.roundOf:=by
  have:=bG.round;rw[hr] at this ⊢;cases hb:b.roundOf with
  |none=>trivial
  |some l=>rw[hb] at this;cases this
 have ahZ:wu (fun k=>marks fz ρ<|r k) fr.defers a.defers:=by have:=bG.defs;rw[hd] at this ⊢;exact this
 have cY:∀k,k<U->k<top->marks fz ρ (r k)=ρ k:=fun k hk gw=>by rw[h0 k hk];exact hm.2.1 k gw
 have ah0:gk fun k=>marks fz ρ<|r k:=fun g hZ=>by obtain⟨N,e⟩:=ay.g g hZ;exact⟨N,(cY g (Nat.lt_of_lt_of_le hZ hg)<|Nat.lt_of_lt_of_le hZ (by unfold fH top;decide)).trans e⟩
 have yZ:TR (fun k=>marks fz ρ<|r k) fr.nt t2 a.tmps:=⟨ay.tr.1,fun i y hy=>by obtain⟨x,e1,e2⟩:=ht i y hy;exact e2 ρ _ _ hm<|ay.tr.2 i x e1⟩;obtain⟨kl,j,s3,τ,a2,w2,q0,qn,q1,IF,q2,q3,q4,q5,q6,q7,q8,q9⟩:=H (fun k=>marks fz ρ<|r k) w b a cs ⟨bG.fn,bG.kind,nR,ahZ,bG.ok⟩ ⟨yZ,ay.rel.ajV fz Da hz hh yn Fj,ah0,ay.nt,hf2⟩ fun k hk ht=>(hm.2.1 _ (h1 k hk ht).2).trans<|hf _ (h1 k hk ht).1 (h1 k hk ht).2;exact⟨kl,j,s3,τ,a2,w2,q0,qn,fun k hk gw=>(q1 k hk gw).trans<|cY k hk gw,fun k x hk hx=>IF k x hk (by show marks fz ρ (r k)=_;rw[Da k hk];exact hm.1 _ _ hx),q2,q3,q4,q5,q6,q7,q8,q9⟩
end
end Go.Rn
namespace Go.Rn
open Go.RowKit
variable {i:Nat} {d:Option Tmp} {v:AV} {o:Oper}
noncomputable section
def aP:List (Nat×AV)->Tr AV
 |[]=>.nil
 |p::l=>(aP l).put p.1<|some p.2
def fL:List (Nat×Option ae)->Tr ae
 |[]=>.nil
 |p::l=>(fL l).put p.1 p.2
def aj(l:List<|Nat×Option ae)(nx:Nat):AS:=⟨fL l,nx,0,[],[]⟩
def WV(P:Program)(f:FuncId):Code:=
 match P.funcs[f]? with
 |none=>.skip
 |some fn=>match fn.body with
  |none=>.skip
  |some c=>c
def aW(P:Program)(f:FuncId)(p:List Nat):Code:=tL p<|WV P f
def opsOf:Code->Array Oper
 | .region _ ops _=>ops
 |_=> #[]
def pS(P:Program)(SI:aO)(nt:Nat)(ops:Array Oper)(i n:Nat)(t:Tr AV):M<|Tr AV:=jl P SI nt ops ((ops.toList.drop i).take n) t
def yD(ops:Array Oper)(i:Nat):Option<|Op×Option Tmp×Option (Nat×Bool):=
 match ops[i]? with
 |none=>none
 |some o=>some (o.op,o.dst,o.guard)
end
section
variable {P:Program} {B:aJ} {U:Nat} {Q:Tr AV->List Nat->Option Code->AS->Prop} {ρ:aw} {w:World} {s s1 s2:AS} {SI:aO} {t t1 t2:Tr AV} {ops:Array Oper} {nt:Nat}
theorem NZ{l:List Oper}:jl P SI nt ops (o::l) t=(gP P SI nt ops o t).bind (jl P SI nt ops l):=rfl
theorem UT:∀{l1 l2:List Oper} {t t1:Tr AV} {s s1:AS},jl P SI nt ops l1 t s= .ok t1 s1->jl P SI nt ops (l1++l2) t s=jl P SI nt ops l2 t1 s1
 |[],l2,t,t1,s,s1,h=>by cases h;rfl
 |o::l1,l2,t,t1,s,s1,h=>by rw[NZ] at h;obtain⟨t',s',h1,h2⟩:=M.aR h;show jl P SI nt ops (o::(l1++l2)) t s=_;rw[NZ,M.bN h1];exact UT h2
theorem TA{n m:Nat}(h1:pS P SI nt ops i n t s= .ok t1 s1)(h2:pS P SI nt ops (i+n) m t1 s1= .ok t2 s2):pS P SI nt ops i (n+m) t s= .ok t2 s2:=by unfold pS at h1 h2 ⊢;rw[List.take_add,UT h1,List.drop_drop];exact h2
theorem TB(ho:ops[i]? =some o)(h:gP P SI nt ops o t s= .ok t1 s1):pS P SI nt ops i 1 t s= .ok t1 s1:=by
 unfold pS;have:(ops.toList.drop i).take 1=[o]:=by
  have h1:ops.toList[i]? =some o:=by rw[Array.getElem?_toList];exact ho
  obtain⟨hi,e⟩:=List.getElem?_eq_some_iff.1 h1;rw[List.drop_eq_getElem_cons hi,e];rfl
 rw[this,NZ,M.bN h];rfl
theorem JN{op:Op}{g:Option<|Nat×Bool}(h:yD ops i=some (op,d,g)):∃o,ops[i]? =some o/\o.op=op/\o.dst=d/\o.guard=g:=by
 unfold yD at h;split at h
 ·cases h
 ·rename_i o e;injection h with h
  injection h with h1 h
  injection h with h2 h3
  exact⟨o,e,h1,h2,h3⟩
theorem cN{op:Op}(ho:yD ops i=some (op,d,none))(h:(dO P op).val SI t s= .ok v s1)(hp:jk nt t d v=some t1):pS P SI nt ops i 1 t s= .ok t1 s1:=by obtain⟨o,e,rfl,rfl,e3⟩:=JN ho;refine TB e ?_;unfold gP Ci;rw[e3];show sI (dO P o.op) o.dst SI nt t s=_;unfold sI;rw[M.bN h,hp];rfl
theorem ajW{op:Op}{g:Nat×Bool}(ho:yD ops i=some (op,d,some g))(hk:tU ops t g.1=true)(hw:qG ops g t=true)(h:(dO P op).val SI t s= .ok v s1)(hp:jk nt t d v=some t1):pS P SI nt ops i 1 t s= .ok t1 s1:=by obtain⟨o,e,rfl,rfl,e3⟩:=JN ho;refine TB e ?_;unfold gP Ci;rw[e3];show uq ops g (dO P o.op) o.dst SI nt t s=_;unfold uq;rw[hk,hw,dz];show((dO P o.op).val SI t).bind (fun v=>lift<|jk nt t o.dst v) s=_;rw[M.bN h,hp];rfl
theorem NG:∀{l:List<|List AV} {K i:Nat} {c:List AV},(∀c∈l,c.length=K)->l[i]? =some c->(l.flatten.drop<|i*K).take K=c
 |[],_,_,_,_,h=>by simp at h
 |x::l,K,0,c,hl,h=>by simp at h;subst h;have hx:=hl x List.mem_cons_self;rw[Nat.zero_mul,List.drop_zero,List.flatten_cons,List.take_append,hx,Nat.sub_self,List.take_zero,List.append_nil, ←hx,List.take_length]
 |x::l,K,i+1,c,hl,h=>by have hx:=hl x List.mem_cons_self;rw[List.flatten_cons,List.drop_append,hx,show(i+1)*K - K=i*K by rw[Nat.add_mul,Nat.one_mul];omega,List.drop_eq_nil_of_le (by rw[hx,Nat.add_mul,Nat.one_mul];omega),List.nil_append];exact NG (fun c hc=>hl c<|List.mem_cons_of_mem _ hc) (by simpa using h)
end
end Go.Rn
namespace Go.Rn
open Go.RowKit
section
variable {P:Program} {s s1:AS} {SI:aO} {t:Tr AV}
theorem aeQ{op:BinOp}{ty yt:TypeId}{x y:Operand}{k:IntKind}{a b:Int}{r:Bool}(hx:aK t x=some (.int k a))(hy:aK t y=some (.int k b))(hs:zK op=false)(hg:J0 P op ty x y (.int k a) (.int k b)=true)(hr:EG op k a b=some (.bool r)):
 (dO P<|.binOp op ty x y yt).val SI t s= .ok (.bool r) s:=by
 show uA P op ty x y SI t s=_;unfold uA;rw[hx,hy,bW,bW,hg,dz];have:BU P op ty (.int k a) (.int k b)=some (.bool r):=by unfold BU;simp only[hs,decide_true];exact hr
 rw[this];rfl
end
end Go.Rn
namespace Go.Rn
open Go.RowKit
section
variable {P:Program} {B:aJ} {U:Nat} {Q:Tr AV->List Nat->Option Code->AS->Prop} {s s1 s2:AS} {SI:aO} {t t1 t2:Tr AV} {ops:Array Oper} {nt:Nat}
theorem aeR{op:BinOp}{ty yt:TypeId}{x y:Operand}{k:IntKind}{a b:Int}{r:AV}(hx:aK t x=some (.int k a))(hy:aK t y=some (.int k b))(hs:zK op=false)(hg:J0 P op ty x y (.int k a) (.int k b)=true)(hr:EG op k a b=some r):
 (dO P<|.binOp op ty x y yt).val SI t s= .ok r s:=by
 show uA P op ty x y SI t s=_;unfold uA;rw[hx,hy,bW,bW,hg,dz];have:BU P op ty (.int k a) (.int k b)=some r:=by unfold BU;simp only[hs,decide_true];exact hr
 rw[this];rfl
noncomputable def uB(P:Program)(SI:aO)(nt:Nat)(ops:Array Oper)(i n:Nat)(t:Tr AV):M<|Tr AV×List dC:=nu P SI nt ops ((ops.toList.drop i).take n) i t
theorem Ue:∀{l1 l2:List Oper} {i:Nat} {t t1 t2:Tr AV} {m1 m2:List dC} {s s1 s2:AS},nu P SI nt ops l1 i t s= .ok (t1,m1) s1->nu P SI nt ops l2 (i+l1.length) t1 s1= .ok (t2,m2) s2->nu P SI nt ops (l1++l2) i t s= .ok (t2,m1++m2) s2
 |[],l2,i,t,t1,t2,m1,m2,s,s1,s2,h,k=>by cases h;exact k
 |o::l1,l2,i,t,t1,t2,m1,m2,s,s1,s2,h,k=>by
  have h':((alone i<|gP P SI nt ops o t).bind fun x=>(nu P SI nt ops l1 (i+1) x.1).bind fun y=>M.pure (y.1,x.2::y.2)) s= .ok (t1,m1) s1:=h;obtain⟨x,sx,e1,e2⟩:=M.aR h';obtain⟨y,sy,e3,e4⟩:=M.aR e2;obtain⟨e5,rfl⟩:=bH e4;injection e5 with e6 e7
  subst e6;subst e7;have:=Ue (i:=i+1) e3 (by rw[show i+1+l1.length=i+(o::l1).length by simp;omega];exact k);show((alone i<|gP P SI nt ops o t).bind fun x=>(nu P SI nt ops (l1++l2) (i+1) x.1).bind fun y=>M.pure (y.1,x.2::y.2)) s=_;rw[M.bN e1,M.bN this];rfl
theorem UU{i n m N:Nat}{m1 m2:List dC}(hN:ops.size=N)(hi:i+n<=N)(h1:uB P SI nt ops i n t s= .ok (t1,m1) s1)(h2:uB P SI nt ops (i+n) m t1 s1= .ok (t2,m2) s2):uB P SI nt ops i (n+m) t s= .ok (t2,m1++m2) s2:=by unfold uB at h1 h2 ⊢;rw[List.take_add,List.drop_drop];refine Ue h1 ?_;rw[List.length_take,List.length_drop,Array.length_toList,hN,Nat.min_eq_left ak];exact h2
theorem GO:∀{l:List<|Nat×AV} {i:Nat} {y:AV},(∀p∈l,p.1<top)->(aP l).get i=some y->(i,y)∈l
 |[],i,y,_,h=>by have:(Tr.nil:Tr AV).get i=some y:=h;rw[Tr.get_nil] at this;cases this
 |p::l,i,y,hl,h=>by
  have h':((aP l).put p.1<|some p.2).get i=some y:=h;rw[Tr.lV _ _ _ _<|hl p List.mem_cons_self] at h';by_cases e:i=p.1
  ·rw[if_pos e] at h';injection h' with h';subst h';subst e;exact List.mem_cons_self
  ·rw[if_neg e] at h';exact List.mem_cons_of_mem _<|GO (fun q hq=>hl q<|List.mem_cons_of_mem _ hq) h'
theorem xD:∀{l:List<|Nat×Option ae} {i:Nat} {y:ae},(∀p∈l,p.1<top)->(fL l).get i=some y->(i,some y)∈l
 |[],i,y,_,h=>by have:(Tr.nil:Tr ae).get i=some y:=h;rw[Tr.get_nil] at this;cases this
 |p::l,i,y,hl,h=>by
  have h':((fL l).put p.1 p.2).get i=some y:=h;rw[Tr.lV _ _ _ _<|hl p List.mem_cons_self] at h';by_cases e:i=p.1
  ·rw[if_pos e] at h';have:p=(i,some y):=by rw[e, ←h']
   rw[←this];exact List.mem_cons_self
  ·rw[if_neg e] at h';exact List.mem_cons_of_mem _<|xD (fun q hq=>hl q<|List.mem_cons_of_mem _ hq) h'
theorem bz.same(x:AV):bz (fun k=>k) x x:=fun _ _ h=>h
theorem sk.same(x:ae):sk (fun k=>k) x x:=fun _ _ _ h=>h
def yo(t:Tr AV):List (Nat×AV)->Prop
 |[]=>True
 |p::l=>t.get p.1=some p.2/\yo t l
def yE(h:Tr ae):List (Nat×Option ae)->Prop
 |[]=>True
 |p::l=>(h.get p.1=p.2/\∀o,p.2=some o->o.lZ=true)/\yE h l
theorem yo.mem{t:Tr AV}:∀{l:List<|Nat×AV},yo t l->∀p∈l,t.get p.1=some p.2
 |[],_,p,hp=>by cases hp
 |q::l,h,p,hp=>by
  rcases List.mem_cons.1 hp with rfl|hp
  ·exact h.1
  ·exact yo.mem h.2 p hp
theorem yE.mem{h:Tr ae}:∀{l:List<|Nat×Option ae},yE h l->∀p∈l,h.get p.1=p.2/\∀o,p.2=some o->o.lZ=true
 |[],_,p,hp=>by cases hp
 |q::l,k,p,hp=>by
  rcases List.mem_cons.1 hp with rfl|hp
  ·exact k.1
  ·exact yE.mem k.2 p hp
def qf{α:Type}(n:Nat):List (Nat×α)->Bool
 |[]=>true
 |p::l=>Nat.blt p.1 n&&qf n l
theorem xE{α:Type}{n:Nat}:∀{l:List<|Nat×α},qf n l=true->∀p∈l,p.1<n
 |[],_,p,hp=>by cases hp
 |q::l,h,p,hp=>by
  obtain⟨h1,h2⟩:=and_true.1 h;rcases List.mem_cons.1 hp with rfl|hp
  ·exact(blt_eq _ _).mp h1
  ·exact xE h2 p hp
theorem av.less{f:FuncId}{K:List Item}{l:List<|Nat×AV}{o:List<|Nat×Option ae}{nx:Nat}(hl:qf top l=true)(ho:qf top o=true)(hn:(Nat.ble s.nx nx&&Nat.ble nx top)=true)(hg:fH<=U)(ht:yo t l)(hh:yE s.h o)(H:av P B U Q ⟨f,aP l,nt,K,[],none⟩<|aj o nx):av P B U Q ⟨f,t,nt,K,[],none⟩ s:=by
 obtain⟨CZ,uQ⟩:=and_true.1 hn;have CZ:=aL.1 CZ;have uQ:=aL.1 uQ;refine av.weaken (s2:=aj o nx) (t2:=aP l) [] (fun k=>k) (fun _ _=>rfl) (fun k hk ht=>⟨Nat.le_trans CZ hk,ht⟩) (fun _ _=>rfl) hg ⟨Nat.zero_le _,uQ⟩ rfl rfl (fun _ h=>by cases h) (fun i y hy=>?_) (fun n o2 hn hg=>?_) (fun _ h=>by cases h) (fun n m _ _ _ _ _ _ e=>e) H
 ·have:=GO (fun p hp=>xE hl p hp) hy;exact⟨y,ht.mem _ this,(bz.same y).z⟩
 ·have:=xD (fun p hp=>xE ho p hp) hg;obtain⟨h1,h2⟩:=hh.mem _ this;exact⟨hn,.inl<|h2 o2 rfl,o2,h1,fm.refl _,(sk.same o2).z⟩
end
end Go.Rn
namespace Go.Rn
open Go.RowKit
section
variable {P:Program} {s s1:AS} {SI:aO} {t:Tr AV}
theorem Nw{l z:List AV}(hl:l.length<=top):∀(k off:Nat),off+k<=l.length->lY (Tr.fill l 0 .nil) z k off=some ((l.drop off).take k)
 |0,off,_=>by simp[lY]
 |k+1,off,h=>by
  have cF:off<l.length:=by omega
  have hc:cellAt (Tr.fill l 0 .nil) z off=some l[off]:=by unfold cellAt;rw[Tr.xy _ _ _ _ ak,if_pos ak,Nat.sub_zero,List.getElem?_eq_getElem cF]
  simp only[lY,hc,Nw hl k (off+1) ak];rw[List.drop_eq_getElem_cons cF,List.take_succ_cons]
noncomputable def aI{α:Type}(enc:α->List AV)(l:List α):ae:=.cells (l.map enc).flatten.length (Tr.fill (l.map enc).flatten 0 .nil) []
theorem aeS{o:ae}(ht:s.nx<top):gC o s= .ok s.nx {s with h:=s.h.put s.nx<|some o,nx:=s.nx+1}:=by
 obtain⟨hh,nx,mark,rd,wr⟩:=s;have e1:Nat.blt nx top=true:=by rw[blt_eq];exact ht
 show @Bool.rec (fun _=>R Nat) .bad (forced nx fun m=>.ok m ⟨hh.put m<|some o,m+1,mark,rd,wr⟩) (Nat.blt nx top)=_;rw[e1,zD]
theorem JC{l:List AV}(hl:l.length<=top)(h1:l.all AV.cj=true)(ht:s.nx<top):newRow l s= .ok s.nx {s with h:=s.h.put s.nx<|some<|.cells l.length (Tr.fill l 0 .nil) [],nx:=s.nx+1}:=by unfold newRow;rw[show(and (Nat.ble l.length top)<|l.all AV.cj)=true from and_true.2 ⟨aL.2 hl,h1⟩,dz];exact aeS ht
end
end Go.Rn
namespace Go.Rn
open Go.RowKit
end Go.Rn
namespace Go.Rn
open Go.RowKit
noncomputable section
def dh(m:List<|Int×Int):List<|AV×AV:=m.map fun p=>(.int .i64 p.1,.int .i64 p.2)
def HV(m:List<|Int×Int):ae:=.map (dh m) m.length
end
def getM:List (Int×Int)->Int->Int
 |[],_=>0
 |p::l,k=>if p.1=k then p.2 else getM l k
def gD:List (Int×Int)->Int->Int->List (Int×Int)
 |[],k,v=>[(k,v)]
 |p::l,k,v=>if p.1=k then(k,v)::l else p::gD l k v
section
variable {P:Program} {s s1:AS} {SI:aO} {t:Tr AV}
theorem UW(a b:Int):sameKey (.int .i64 a) (.int .i64 b)=some (a == b):=rfl
theorem UX(k:Int):∀(m:List<|Int×Int) (i:Nat),(kZ (.int .i64 k) (dh m) i=some none/\getM m k=0/\∀v,gD m k v=m++[(k,v)])\/
 ∃j y,kZ (.int .i64 k) (dh m) i=some (some (i+j,.int .i64 y))/\getM m k=y/\m[j]? =some (k,y)/\∀v,putAt (dh m) j (.int .i64 k) (.int .i64 v)=dh (gD m k v)/\(gD m k v).length=m.length
 |[],i=>.inl ⟨rfl,rfl,fun _=>rfl⟩
 |p::l,i=>by
  have hf:kZ (.int .i64 k) (dh<|p::l) i=(match some (k == p.1) with|none=>none|some true=>some (some (i,.int .i64 p.2))|some false=>kZ (.int .i64 k) (dh l)<|i+1):=rfl;by_cases e:p.1=k
  ·refine .inr ⟨0,p.2,?_,?_,?_,fun v=>⟨?_,?_⟩⟩
   ·rw[hf,show(k == p.1)=true by simp[e]];rfl
   ·simp[getM,e]
   ·simp[←e]
   ·simp[gD,e,dh,putAt]
   ·simp[gD,e]
  ·have cz:(k == p.1)=false:=by simp;exact fun q=>e q.symm
   rcases UX k l (i+1) with⟨h1,h2,h3⟩|⟨j,y,h1,h2,h3,h4⟩
   ·refine .inl ⟨?_,?_,fun v=>?_⟩
    ·rw[hf,cz];exact h1
    ·simp[getM,e,h2]
    ·simp[gD,e,h3 v]
   ·refine .inr ⟨j+1,y,?_,?_,?_,fun v=>⟨?_,?_⟩⟩
    ·rw[hf,cz];show kZ _ _ _=_;rw[h1];congr 3;omega
    ·simp[getM,e,h2]
    ·simpa using h3
    ·have:=(h4 v).1;simp only[gD,e,if_false];show(_:AV×AV)::putAt (dh l) j _ _=_::dh (gD l k v);rw[this]
    ·simp[gD,e,(h4 v).2]
end
end Go.Rn
