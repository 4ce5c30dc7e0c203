import Derived.Test.YtphenfaomchomaaGreatDoorRnGB
import Derived.MapKept
import Derived.AtR
import Derived.Orders
set_option maxRecDepth 100000
set_option maxHeartbeats 8000000
set_option linter.unusedSimpArgs false
set_option linter.unusedVariables false
namespace Go.Rn
open Go.RowKit
variable {α:Type} {vb va:Value} {v:α} {ts:Array TypeId} {size n:Nat} {s2:AS} {a:AV}
theorem YQ.cn{m:M α}(hm:YQ m){s s1:AS}(fi:bC s)(h:m s= .ok v s1):bC s1:=by obtain⟨dr,dw,d,_⟩:=hm s v s1 fi h;exact d.cn fi
theorem YQ.le{m:M α}(hm:YQ m){s s1:AS}(fi:bC s)(h:m s= .ok v s1):s.nx<=s1.nx:=by obtain⟨dr,dw,d,_⟩:=hm s v s1 fi h;exact d.nx
section
variable {P:Program} {B:aI} {ρ:Ren} {w:World} {s s1:AS} {x:AV} {YR:aJ} {t:Tr AV} {ev:Operand->Value} {o:Oper}
theorem jV.nx{c:Sem Value}(h:jV P B ρ s2 s1 w x c)(e:s2.nx=s.nx):jV P B ρ s s1 w x c:=by unfold jV at h ⊢;rw[e] at h;exact h
theorem RT{elem sT:TypeId}{len c m b N:Nat}{xv:Value}{xt:Option TypeId}{args:Array TypeId}{dy new:List AV}{vn:Array Value}{p:ae}{bytes:Nat}{vo:List Value}(hu:P.underlying sT=some (.slice elem))(yk:args[0]? =some sT)(uk:args[1]? =xt)(hx:pt P xt=true)(hi:eD P elem=some size)(hn:(Builtin.lenOf xv).run P w= .ok n w)(hle:len+n<=c)(r:Rel B ρ s.h w)(ht:m<top)(hg:s.h.get m=some p)(hp:p.yP=true)(hm:ρ m=some (b,N))(hc:c*size<=N)(hf:dB s.nx s1.nx ρ)(eY:dy.length=len*size)(yl:new.length=n*size)(kH:s2.h=s.h.put m none)(GU:s2.nx=s.nx)(hw:(Builtin.firstCells size n xv).run P w= .ok vn w)(hold:∀j v,vo[j]? =some v->w.cell? ⟨b,0+j,none⟩=some v)(ho:ay ρ dy vo)(Ed:ay ρ new vn.toList)(h:grown size bytes (len+n) dy new s2= .ok x s1):jV P B ρ s s1 w x<|Builtin.append_ args 0 #[.slice (some ⟨b,0,none⟩) len c,xv]:=by
 obtain⟨o',hb,hO,hB⟩:=r.block ht hg hm;cases p with
 |cells k tr z=>
  obtain⟨c0,e0,rfl,jr,hk,row⟩:=hO;unfold grown at h;obtain⟨_,h2⟩:=cX h;obtain⟨q,s3,h3,h4⟩:=M.aN h2;obtain⟨rfl,rfl⟩:=bB h4;unfold newRow at h3;obtain⟨q1,q2⟩:=cX h3;obtain⟨q3,q4⟩:=and_true.1 q1;obtain⟨Ee,rfl,rfl⟩:=uP q2;have vK:∀y∈dy++new,y.bR=true:=fun y hy=>List.all_eq_true.1 q4 y hy;have hlen:(dy++new).length<=top:=aK.1 q3;have hvl:=Ed.length;have XD:=ho.length;have hmul:len*size+n*size<=c*size:=by rw[←Nat.add_mul];exact Nat.mul_le_mul_right _ hle
  have Kb:len*size+vn.toList.length<=c0.size:=by omega
  have cC:=Mr (P:=P) (off:=len*size) (vs:=vn.toList) hb Kb<|Hv Ed fun y hy=>vK y<|List.mem_append_right _ hy;obtain⟨g1,g2⟩:=LU (cs:=(c0.toList.take (len*size)++vn.toList++c0.toList.drop (len*size+vn.toList.length)).toArray) hb;have qz:=IH (P:=P) (w:=w) (base:=some ⟨b,0,none⟩) hu yk uk hx hi hn hle hw (by show(storeCells ((Addr.mk b 0 none).add<|len*size) vn.toList).run P w=_;rw[Addr.rf,Nat.zero_add];exact cC);obtain⟨d1,d2⟩:=r.Vs ht hg rfl rfl hm g1;have jf:ρ s2.nx=none:=hf s2.nx aj (Nat.lt_succ_self _) aj;refine⟨eQ ρ s2.nx (b,N),_,_,?_,qz,?_,?_,g1.below<|hB rfl⟩
  ·rw[←GU];exact Ext.my jf
  ·simp only[VR];exact⟨b,N,c,iQ _ _ _,rfl,hle,hle,by omega⟩
  ·show Rel B _ (s2.h.put s2.nx<|some<|.cells (dy++new).length (Tr.fill (dy++new) 0 .nil) []) _;rw[kH];refine d1.name Ee jf rfl g2 (fun _=>hB rfl) (fun k' sh=>by
    cases e:ρ (Rn.hn k' b sh) with
    |none=>rfl
    |some x=>obtain⟨_,_,_,_,_,_,_,q3,_⟩:=r.fz k' b sh (by rw[e];exact fun h=>by cases h);exact absurd hm<|q3 m _ N ht hg rfl) d2 ?_ (r.tk.of (om jf) (fun j q hj hq xU=>by
    rw[Tr.di _ _ _ _ Ee hj] at hq;by_cases e:j=s2.nx
    ·rw[if_pos e] at hq;cases hq;cases xU
    ·rw[if_neg e,Tr.di _ _ _ _ ht hj] at hq;by_cases e2:j=m
     ·rw[if_pos e2] at hq;cases hq
     ·rw[if_neg e2] at hq;exact hq) (by rw[g1.size];exact Nat.le_refl _) (fun b1 _ hn=>g1.block b1 fun e=>hn m _ N ht hg rfl (by rw[e];exact hm)) (fun b1 _ hn j q M hj hq gZ e2=>by
    rw[Tr.di _ _ _ _ Ee hj] at hq;by_cases e:j=s2.nx
    ·subst e;rw[iQ] at e2;cases e2;exact hn m _ N ht hg rfl hm
    ·rw[if_neg e,Tr.di _ _ _ _ ht hj] at hq;rw[gK ρ _ e] at e2;by_cases e3:j=m
     ·rw[if_pos e3] at hq;cases hq
     ·rw[if_neg e3] at hq;exact hn j q M hj hq gZ e2) (fun j x sh _ _ e=>by rw[gK ρ _ (by have:=gf j x sh;omega)];exact e))
   refine⟨_,e0,rfl,?_,?_,fun i hi=>?_⟩
   ·exact(size_set Kb).trans jr
   ·simp only[List.length_append];omega
   ·simp only[List.length_append] at hi;obtain⟨a,ha⟩:∃a,(dy++new)[i]? =some a:=⟨(dy++new)[i]'(by simp;exact hi),List.getElem?_eq_getElem _⟩;have mH:=yJ (l:=dy++new) (i:=i) hlen (by simp;exact hi);obtain⟨v,hv,hr⟩:=(ho.append Ed).get i a ha;refine⟨a,v,by rw[mH];exact ha,vK a<|List.mem_of_getElem? ha,?_,hr.mono<|om jf⟩;simp only[List.getElem?_toArray];by_cases q:i<len*size
    ·rw[List.getElem?_append_left aj] at hv;have:=hold i v hv;simp only[World.cell?,hb,Nat.zero_add] at this;rw[List.append_assoc,List.getElem?_append_left vY,List.getElem?_take_of_lt q];simpa using this
    ·rw[List.getElem?_append_right aj] at hv;have hvi:i - vo.length<vn.toList.length:=(List.getElem?_eq_some_iff.1 hv).1;rw[List.append_assoc,List.getElem?_append_right vY];simp only[List.length_take,Array.length_toList];rw[Nat.min_eq_left aj,List.getElem?_append_left aj];rw[show i - len*size=i - vo.length from by omega];exact hv
 |_=>cases hp
theorem Zg{b:AV}(ha:VR ρ a va)(hb:VR ρ b vb)(fi:bC s)(r:Rel B ρ s.h w)(hf:dB s.nx s1.nx ρ)(h:pq P ts a b s= .ok x s1):
 jV P B ρ s s1 w x (Builtin.append_ ts 0 #[va,vb]):=by
 unfold pq at h;obtain⟨sT,h1,h⟩:=bw h;cases e1:P.underlying sT with
 |none=>simp only[e1] at h;cases h
 |some d=>
  cases d<;>simp only[e1] at h<;>first|(cases h;done)|skip
  rename_i elem;cases a<;>simp only at h<;>first|(cases h;done)|skip
  rename_i base len cap _;obtain⟨i,h2,h⟩:=bw h;obtain⟨h3,h⟩:=cX h;obtain⟨hz,hx⟩:=and_true.1 h3;obtain⟨n,h4,h⟩:=bw h;obtain⟨new,s2,h5,h⟩:=M.aN h;obtain⟨h6,h⟩:=cX h;have yl:=eA.1 h6;have hi:eD P elem=some i.size:=by simp[eD,h2]
  obtain⟨k1,k2,vn,k3,k4⟩:=Hs (P:=P) hb fi r h5;have rd:Rel B ρ s.h {w with drawn:=w.drawn+1}:=r.Bu<|gP.drew w;obtain⟨_,_,vn',KS,KU⟩:=Hs (P:=P) hb fi rd h5;have hn:=SM (P:=P) (w:=w) hb h4;have dz:bC s2:=(YQ.firstCells _ _ _).cn fi h5;have r2:Rel B ρ s2.h w:=by rw[k1];exact r
  have BW:Rel B ρ s2.h {w with drawn:=w.drawn+1}:=by rw[k1];exact rd
  unfold qX at h;cases cap with
  |lost=>cases h
  |known c=>
   simp only at h;cases q:Nat.ble (len+n) c with
   |true=>
    simp only[q] at h;have hle:=aK.1 q;obtain⟨u,s3,h7,h8⟩:=M.aN h;obtain⟨rfl,rfl⟩:=bB h8;cases base with
    |none=>
     obtain⟨rfl,rfl⟩:=bB h7;obtain⟨rfl,hc,rfl⟩:=lN ha;cases hc;have oX:n=0:=by omega
     subst oX;refine⟨ρ,w,_,by rw[k2];exact Ext.refl _ _ _,IH (P:=P) (w:=w) (base:=none) e1 h1 rfl hx hi hn hle k3 rfl,?_,r2,cx.refl _ _⟩;simp[VR]
    |some p=>obtain⟨m,j⟩:=p;have qJ:=ha;simp only[VR] at qJ;obtain⟨bb,N,hm,rfl⟩:=qJ;obtain⟨g1,w',g2,g3,g4⟩:=LG (P:=P) dz r2 h7 hm k4;refine⟨ρ,w',_,by rw[g1,k2];exact Ext.refl _ _ _,IH (P:=P) (w:=w) (base:=some ⟨bb,j,none⟩) e1 h1 rfl hx hi hn hle k3 (by show(storeCells ((Addr.mk bb j none).add<|len*i.size) vn.toList).run P w=_;rw[Addr.rf];exact g2),?_,g3,g4⟩;simp only[VR];exact⟨bb,N,hm,rfl⟩
   |false=>
    simp only[q] at h;have cf:c<len+n:=by
     rcases Nat.lt_or_ge c (len+n) with e|e
     ·exact e
     ·rw[aK.2 e] at q;cases q
    obtain⟨dy,s3,h7,h8⟩:=M.aN h;obtain⟨j1,j2,vo,j3,j4⟩:=Hs (P:=P) ha dz BW h7;have XD:=aem dz r2 ha (by intro e;cases e) h7;have:∃We:Option Addr,va= .slice We len c:=by
     cases base with
     |none=>obtain⟨rfl,hc,rfl⟩:=lN ha;cases hc;exact⟨_,rfl⟩
     |some p=>obtain⟨m,j⟩:=p;simp only[VR] at ha;obtain⟨_,_,_,rfl⟩:=ha;exact⟨_,rfl⟩
    obtain⟨We,hva⟩:=this;refine jV.nx (s2:=s3) (Mu (P:=P) hva e1 h1 rfl hx h2 hz hn cf (by rw[j1];exact r2) (by rw[j2,k2];exact hf) XD yl j3 KS j4 KU h8) (by rw[j2,k2])
  |aq lo sz=>
   obtain⟨h7,h⟩:=cX h;have:=eA.1 h7;subst this;cases q:Nat.ble (len+n) lo with
   |true=>
    simp only[q] at h;have hle:=aK.1 q;cases base with
    |none=>cases h
    |some p=>
     obtain⟨m,j⟩:=p;simp only at h;obtain⟨u,s3,h8,h9⟩:=M.aN h;obtain⟨rfl,rfl⟩:=bB h9;have qJ:=ha;simp only[VR] at qJ;obtain⟨bb,N,c,hm,rfl,eY,KV,hN⟩:=qJ;have Kb:j+len*i.size+new.length<=N:=by have:(len+n)*i.size<=c*i.size:=Nat.mul_le_mul_right _ aj;rw[Nat.add_mul] at this;omega
     obtain⟨g1,w',g2,g3,g4⟩:=Y7 (P:=P) dz r2 Kb h8 hm k4;refine⟨ρ,w',_,by rw[g1,k2];exact Ext.refl _ _ _,IH (P:=P) (w:=w) (base:=some ⟨bb,j,none⟩) e1 h1 rfl hx hi hn aj k3 (by show(storeCells ((Addr.mk bb j none).add<|len*i.size) vn.toList).run P w=_;rw[Addr.rf];exact g2),?_,g3,g4⟩;simp only[VR];exact⟨bb,N,c,hm,rfl,eY,by omega,hN⟩
   |false=>
    simp only[q] at h;cases base with
    |none=>cases h
    |some p=>
     obtain⟨m,j⟩:=p;cases j with
     |succ j=>cases h
     |zero=>
      simp only at h;obtain⟨dy,s3,h8,h⟩:=M.aN h;obtain⟨ob,s4,h9,h⟩:=M.aN h;obtain⟨gG,h⟩:=cX h;obtain⟨u,s5,uo,qK⟩:=M.aN h;have qJ:=ha;simp only[VR] at qJ;obtain⟨bb,N,c,hm,rfl,eY,KV,hN⟩:=qJ;obtain⟨j1,j2,j3,j4,vo,j5,j6,j7⟩:=yI (P:=P) dz r2 h8 hm;obtain⟨_,_,_,_,vo',Qj,Qk,_⟩:=yI (P:=P) dz BW h8 hm;obtain⟨i1,i2,i3,i4⟩:=fX h9;obtain⟨i5,i6,i7,i8,i9⟩:=jB uo;have hh:s4.h=s2.h:=i3.trans j1;have ct:s4.nx=s.nx:=(i4.trans j2).trans k2;by_cases hq:len+n<=c
      ·refine jV.nx (s2:=s2) ?_ k2;refine RT (P:=P) (s:=s2) (s2:=s5) (p:=ob) (vo:=vo) e1 h1 rfl hx hi hn hq r2 i6 (by rw[←j1];exact i2) gG hm aj (by rw[k2];exact hf) j3 yl (by rw[i8,hh]) (by rw[i9,ct,k2]) k3 j7 j6 k4 qK
      ·have Ql:s4.h.get m≠some .iy:=by intro e;rw[i3,i2] at e;injection e with e;subst e;cases gG
       refine jV.nx (s2:=s5) (Mu (P:=P) rfl e1 h1 rfl hx h2 hz hn aj (by rw[i8];exact Rel.drop (by rw[hh];exact r2) i6 Ql) (by rw[i9,ct];exact hf) j3 yl (by simpa[Builtin.firstCells] using Qj) KS (by simpa using Qk) KU qK) (by rw[i9,ct])
theorem RD{o k:Nat}{v:Value}{l:List AV}{YR:aJ}(eU:A7 B YR)(ht:top<=n)(hb:VR ρ (.U n o k) v)(fi:bC s)(r:Rel B ρ s.h w)(h:sL YR n o (k*size) s= .ok l s1):
 s1.h=s.h/\s1.nx=s.nx/\l.length=k*size/\(Builtin.lenOf v).run P w= .ok k w/\∃arr:Array Value,(Builtin.firstCells size k v).run P w= .ok arr w/\ay ρ l arr.toList:=by
 rcases Nat.eq_zero_or_pos (k*size) with hk|hk
 ·rw[show sL YR n o (k*size)=M.pure [] from by rw[hk];rfl] at h;obtain⟨rfl,rfl⟩:=bB h;refine⟨rfl,rfl,hk.symm,?_⟩;simp only[VR] at hb;rcases hb with⟨_,rfl,a0,c,rfl,_⟩|⟨b,sh,c,e,rfl,_⟩
  ·refine⟨rfl, #[],?_,by simp[ay]⟩;cases a0<;>simp[Builtin.firstCells,loadCells,loadCellsFrom]
  ·refine⟨rfl, #[],?_,by simp[ay]⟩;simp[Builtin.firstCells,loadCells,loadCellsFrom,hk]
 rw[show sL YR n o (k*size)=(YR (.row n o<|k*size) []).bind fun x=>match x with
  | .agg l=>aF (Nat.beq l.length<|k*size) <| M.pure l
  |_=>fail from by obtain⟨m,hm⟩:∃m,k*size=m+1:=⟨k*size - 1,by omega⟩;rw[hm];rfl] at h
 obtain⟨x,s2,h1,h2⟩:=M.aN h;split at h2<;>first|(cases h2;done)|skip
 rename_i l';obtain⟨h3,h4⟩:=cX h2;obtain⟨rfl,rfl⟩:=bB h4;obtain⟨a1,a2,a3⟩:=eU _ _ _ _ _ _ _ _ fi r h1;have hlen:=eA.1 h3;refine⟨a1,a2,hlen,?_⟩;simp only[VR] at hb;rcases hb with⟨_,rfl,a0,c,rfl,hz⟩|⟨b,sh,c,e,rfl,_⟩
 ·have:l=[]:=List.eq_nil_of_length_eq_zero (by rw[hlen,Nat.zero_mul]);subst this;refine⟨rfl, #[],?_,by simp[ay]⟩;cases a0<;>simp[Builtin.firstCells,loadCells,loadCellsFrom]
 ·obtain⟨l2,vs,e2,e3,e4,c',et,fr,e5,e6⟩:=a3 b sh<|e.high ht;injection e2 with e2
  subst e2;have F0:=Ic (P:=P) (w:=w) e5 e6;rw[e3] at F0;exact⟨rfl,vs.toArray,by simpa[Builtin.firstCells] using F0,by simpa using e4⟩
theorem Zt{n0 o0 k0:Nat}{YR:aJ}(eU:A7 B YR)(hl:∀t a,YQ<|YR t a)(ha:VR ρ a va)(hb:VR ρ (.U n0 o0 k0) vb)(fi:bC s)(r:Rel B ρ s.h w)(hf:dB s.nx s1.nx ρ)(h:AK P YR ts a n0 o0 k0 s= .ok x s1):
 jV P B ρ s s1 w x (Builtin.append_ ts 0 #[va,vb]):=by
 unfold AK at h;obtain⟨dM,h⟩:=cX h;have dM:=aK.1 dM;obtain⟨sT,h1,h⟩:=bw h;cases e1:P.underlying sT with
 |none=>simp only[e1] at h;cases h
 |some d=>
  cases d<;>simp only[e1] at h<;>first|(cases h;done)|skip
  rename_i elem;obtain⟨m,len,cap,rfl⟩:∃m len cap,a= .slice (some (m,0)) len cap:=by
   cases a with
   |slice base len cap=>
    cases base with
    |none=>cases h
    |some p=>
     obtain⟨m,j⟩:=p;cases j with
     |succ j=>cases h
     |zero=>exact⟨m,len,cap,rfl⟩
   |_=>cases h
  obtain⟨i,h2,h⟩:=bw h;obtain⟨h3,h⟩:=cX h;obtain⟨hz,hx⟩:=and_true.1 h3;obtain⟨fP,h⟩:=cX h;obtain⟨new,s2,h5,h⟩:=M.aN h;have hi:eD P elem=some i.size:=by simp[eD,h2]
  obtain⟨k1,k2,yl,hn,vn,k3,k4⟩:=RD (P:=P) eU dM hb fi r h5;have rd:Rel B ρ s.h {w with drawn:=w.drawn+1}:=r.Bu<|gP.drew w;obtain⟨_,_,_,_,vn',KS,KU⟩:=RD (P:=P) eU dM hb fi rd h5;have dz:bC s2:=(YQ.sL hl _ _ _).cn fi h5;have r2:Rel B ρ s2.h w:=by rw[k1];exact r
  have BW:Rel B ρ s2.h {w with drawn:=w.drawn+1}:=by rw[k1];exact rd
  have qJ:∃bb N c,ρ m=some (bb,N)/\va= .slice (some ⟨bb,0,none⟩) len c/\len<=c/\0+c*i.size<=N:=by
   cases cap with
   |lost=>cases fP
   |known c=>obtain⟨q1,q2⟩:=and_true.1 fP;have q1:=eA.1 q1;have q2:=eA.1 q2;subst q1;subst q2;simp only[VR] at ha;obtain⟨bb,N,e,hv⟩:=ha;exact⟨bb,N,0,e,hv,Nat.le_refl _,by omega⟩
   |aq lo sz=>have:=eA.1 fP;subst this;simp only[VR] at ha;obtain⟨bb,N,c,hm,hv,_,KV,hN⟩:=ha;exact⟨bb,N,c,hm,hv,KV,hN⟩
  obtain⟨bb,N,c,hm,rfl,KV,hN⟩:=qJ;obtain⟨dy,s3,h8,h⟩:=M.aN h;obtain⟨ob,s4,h9,h⟩:=M.aN h;obtain⟨gG,h⟩:=cX h;obtain⟨u,s5,uo,qK⟩:=M.aN h;obtain⟨j1,j2,j3,j4,vo,j5,j6,j7⟩:=yI (P:=P) dz r2 h8 hm;obtain⟨_,_,_,_,vo',Qj,Qk,_⟩:=yI (P:=P) dz BW h8 hm;obtain⟨i1,i2,i3,i4⟩:=fX h9;obtain⟨i5,i6,i7,i8,i9⟩:=jB uo;have hh:s4.h=s2.h:=i3.trans j1;have ct:s4.nx=s.nx:=(i4.trans j2).trans k2;by_cases hq:len+k0<=c
  ·refine jV.nx (s2:=s2) ?_ k2;refine RT (P:=P) (s:=s2) (s2:=s5) (p:=ob) (vo:=vo) e1 h1 rfl hx hi hn hq r2 i6 (by rw[←j1];exact i2) gG hm aj (by rw[k2];exact hf) j3 yl (by rw[i8,hh]) (by rw[i9,ct,k2]) k3 j7 j6 k4 qK
  ·have Ql:s4.h.get m≠some .iy:=by intro e;rw[i3,i2] at e;injection e with e;subst e;cases gG
   refine jV.nx (s2:=s5) (Mu (P:=P) rfl e1 h1 rfl hx h2 hz hn aj (by rw[i8];exact Rel.drop (by rw[hh];exact r2) i6 Ql) (by rw[i9,ct];exact hf) j3 yl (by simpa[Builtin.firstCells] using Qj) KS (by simpa using Qk) KU qK) (by rw[i9,ct])
end
end Go.Rn
namespace Go.Rn
open Go.RowKit
variable {ts:Array TypeId} {vs:Array Value} {va:Value} {ty:TypeId} {consts:Array Bool} {b:Builtin} {a:AV}
section
variable {P:Program} {B:aI} {ρ:Ren} {w:World} {s s1:AS} {x:AV} {YR:aJ} {t:Tr AV} {ev:Operand->Value} {o:Oper}
theorem ZU{b:AV}{vb:Value}(ha:VR ρ a va)(hb:VR ρ b vb)(fi:bC s)(r:Rel B ρ s.h w)(h:yW P ts a b s= .ok x s1):
 jV P B ρ s s1 w x (Builtin.copy_ ts 0 #[va,vb]):=by
 unfold yW at h;obtain⟨sT,h1,h⟩:=bw h;cases e1:P.underlying sT with
 |none=>simp only[e1] at h;cases h
 |some d=>
  cases d<;>simp only[e1] at h<;>first|(cases h;done)|skip
  rename_i elem;cases a<;>simp only at h<;>first|(cases h;done)|skip
  rename_i base len cap _;obtain⟨k,h2,h⟩:=bw h;obtain⟨n,h3,h⟩:=bw h;obtain⟨h4,h⟩:=cX h;obtain⟨cells,s2,h5,h⟩:=M.aN h;obtain⟨u,s3,h6,h7⟩:=M.aN h;obtain⟨rfl,rfl⟩:=bB h7;have hn:=SM (P:=P) (w:=w) hb h3;obtain⟨k1,k2,vn,k3,k4⟩:=Hs (P:=P) hb fi r h5;have dz:bC s2:=(YQ.firstCells _ _ _).cn fi h5;have r2:Rel B ρ s2.h w:=by rw[k1];exact r
  cases base with
  |none=>obtain⟨_,rfl⟩:=bB h6;obtain⟨rfl,hc,rfl⟩:=lN ha;refine⟨ρ,w,.int .i64 (Nat.min n 0:Nat),by rw[k2];exact Ext.refl _ _ _,?_,by simp only[VR],r2,cx.refl _ _⟩;simp only[Builtin.copy_,h1,show(#[Value.slice none 0 0,vb]:Array Value)[0]? =some (.slice none 0 0) from rfl,show(#[Value.slice none 0 0,vb]:Array Value)[1]? =some vb from rfl,Sem.run_bind,dv e1,Result.andThen_ok,hn,iP h2,k3,Sem.run_pure,goInt]
  |some p=>
   obtain⟨m,i⟩:=p;have hq:∃bb N c,ρ m=some (bb,N)/\va= .slice (some ⟨bb,i,none⟩) len c:=by
    cases cap with
    |known c=>simp only[VR] at ha;obtain⟨bb,N,e,rfl⟩:=ha;exact⟨bb,N,c,e,rfl⟩
    |aq lo e0=>simp only[VR] at ha;obtain⟨bb,N,c,e,rfl,_⟩:=ha;exact⟨bb,N,c,e,rfl⟩
    |lost=>cases h4
   obtain⟨bb,N,c,hm,rfl⟩:=hq;obtain⟨g1,w',g2,g3,g4⟩:=LG (P:=P) dz r2 h6 hm k4;refine⟨ρ,w',.int .i64 (Nat.min n len:Nat),by rw[g1,k2];exact Ext.refl _ _ _,?_,by simp only[VR],g3,g4⟩;simp only[Builtin.copy_,h1,show(#[Value.slice (some ⟨bb,i,none⟩) len c,vb]:Array Value)[0]? =some (.slice (some ⟨bb,i,none⟩) len c) from rfl,show(#[Value.slice (some ⟨bb,i,none⟩) len c,vb]:Array Value)[1]? =some vb from rfl,Sem.run_bind,dv e1,Result.andThen_ok,hn,iP h2,k3,Sem.run_pure,goInt,g2]
theorem dP.length:∀{x:List<|AV×AV} {l:List MapEntry},dP ρ x l->x.length=l.length
 |[],l,k=>by have k':l=[]:=k;subst k';rfl
 |_::_,_,k=>by obtain⟨e,es,rfl,_,_,d⟩:=k;simp[dP.length d]
theorem abL(ha:VR ρ a va)(fi:bC s)(r:Rel B ρ s.h w)(h:zx P ts a s= .ok x s1):
    jV P B ρ s s1 w x (Builtin.len_ ts 0 #[va]):=by
  unfold zx at h
  have h9:=M.aN h
  clear h
  obtain⟨sT,s0,h0,h⟩:=h9
  obtain⟨h1,KX⟩:=gS h0
  clear h0
  subst KX
  have XE:(#[va]:Array Value)[0]? =some va:=rfl
  cases e1:P.underlying sT with
  |none=>simp only[e1] at h;cases h
  | some d=>
    have fin:∀n:Nat,(Builtin.len_ ts 0 #[va]).run P w= .ok (goInt n) w->x= .int .i64 n->s1.h=s0.h->s1.nx=s0.nx->jV P B ρ s0 s1 w x (Builtin.len_ ts 0 #[va]):=by
      intro n hr hx hh ct
      subst hx
      exact⟨ρ,w,_,by rw[ct];exact Ext.refl _ _ _,hr,by simp only[VR,goInt],by rw[hh];exact r,cx.refl _ _⟩
    cases d<;>simp only[e1] at h<;>first|(cases h;done)|skip
    case slice e=>
      cases a<;>first|(cases h;done)|skip
      case slice base len cap=>
        obtain⟨rfl,rfl⟩:=bB h
        have:∃p c,va= .slice p len c:=by
          cases base with
          |none=>obtain⟨rfl,_,rfl⟩:=lN ha;exact⟨_,_,rfl⟩
          |some p=>obtain⟨m,j⟩:=p;obtain⟨_,_,_,_,_,rfl⟩:=uL ha;exact⟨_,_,rfl⟩
        obtain⟨p,c,rfl⟩:=this
        refine fin _ ?_ rfl rfl rfl
        simp only[Builtin.len_,h1,XE,Sem.run_bind,dv e1,Result.andThen_ok,Sem.run_pure]
      case U n o len=>
        obtain⟨rfl,rfl⟩:=bB h
        simp only[VR] at ha
        rcases ha with⟨_,rfl,_,_,rfl,_⟩|⟨b,sh,c,_,rfl,_⟩<;>
        (refine fin _ ?_ rfl rfl rfl
         simp only[Builtin.len_,h1,XE,Sem.run_bind,dv e1,Result.andThen_ok,Sem.run_pure])
theorem M6{f:AV->AV->Option AV}{g:Value->Value->Sem Value}(hf:∀a b c va vb,f a b=some c->VR ρ a va->VR ρ b vb->∃vc,(g va vb).run P w= .ok vc w/\VR ρ c vc):
 ∀{l:List AV} {vs:List Value} {a c:AV} {va:Value},C1 f l a=some c->ay ρ l vs->VR ρ a va->∃vc,(vs.foldlM g va).run P w= .ok vc w/\VR ρ c vc
 |[],vs,a,c,va,h,hl,ha=>by
  simp only[ay] at hl;subst hl;simp only[C1] at h;injection h with h;subst h
  exact⟨va,rfl,ha⟩
 |y::l,vs,a,c,va,h,hl,ha=>by
  simp only[ay] at hl;obtain⟨v,ys,rfl,hv,hl⟩:=hl;simp only[C1] at h;cases e:f a y with
  |none=>rw[e] at h;cases h
  |some z=>simp only[e] at h;obtain⟨vz,g1,g2⟩:=hf a y z va v e ha hv;obtain⟨vc,g3,g4⟩:=M6 hf h hl g2;exact⟨vc,by simp only[List.foldlM_cons,Sem.run_bind,g1,Result.andThen_ok,g3],g4⟩
theorem abM(a b c:AV)(va vb:Value)(h:min2 a b=some c)(ha:VR ρ a va)(hb:VR ρ b vb):∃vc,(Builtin.min2 va vb).run P w= .ok vc w/\VR ρ c vc:=by
 unfold min2 at h;split at h
 ·rename_i k x k2 y;injection h with h;subst h
  simp only[VR] at ha hb;subst ha;subst hb;refine⟨_,rfl,?_⟩;simp only[VR];by_cases q:y<x<;>simp[q]
 ·cases h
theorem abN(a b c:AV)(va vb:Value)(h:max2 a b=some c)(ha:VR ρ a va)(hb:VR ρ b vb):∃vc,(Builtin.max2 va vb).run P w= .ok vc w/\VR ρ c vc:=by
 unfold max2 at h;split at h
 ·rename_i k x k2 y;injection h with h;subst h
  simp only[VR] at ha hb;subst ha;subst hb;refine⟨_,rfl,?_⟩;simp only[VR];by_cases q:y>x<;>simp[q]
 ·cases h
theorem Zh{l:List AV}(hl:ay ρ l vs.toList)(fi:bC s)(r:Rel B ρ s.h w)(hf:dB s.nx s1.nx ρ)(h:yM P b ts l s= .ok x s1):gg P B ρ s s1 w x<|Go.builtin b ts ty consts vs:=by
 obtain⟨vs⟩:=vs;unfold yM at h;split at h
 ·rename_i y;simp only[ay] at hl;obtain⟨v,ys,rfl,hv,rfl⟩:=hl;exact(abL hv fi r h).op
 ·rename_i y z;simp only[ay] at hl;obtain⟨v,ys,rfl,hv,v2,Ef,rfl,rV,rfl⟩:=hl;exact(Zg hv rV fi r hf h).op
 ·rename_i y z;simp only[ay] at hl;obtain⟨v,ys,rfl,hv,v2,Ef,rfl,rV,rfl⟩:=hl;exact(ZU hv rV fi r h).op
 ·rename_i y z;simp only[ay] at hl;obtain⟨v,ys,rfl,hv,hl⟩:=hl;obtain⟨h1,rfl⟩:=gS h;obtain⟨vc,g1,g2⟩:=M6 (P:=P) (w:=w) abM h1 hl hv;exact jV.op (c:=Builtin.min_ ts ty ⟨v::ys⟩) ⟨ρ,w,vc,Ext.refl _ _ _,g1,g2,r,cx.refl _ _⟩
 ·rename_i y z;simp only[ay] at hl;obtain⟨v,ys,rfl,hv,hl⟩:=hl;obtain⟨h1,rfl⟩:=gS h;obtain⟨vc,g1,g2⟩:=M6 (P:=P) (w:=w) abN h1 hl hv;exact jV.op (c:=Builtin.max_ ts ty ⟨v::ys⟩) ⟨ρ,w,vc,Ext.refl _ _ _,g1,g2,r,cx.refl _ _⟩
 ·cases h
theorem ZV{y:AV}{n q k:Nat}(eU:A7 B YR)(oZ:∀t a,YQ<|YR t a)(hl:ay ρ [y,.U n q k] vs.toList)(fi:bC s)(r:Rel B ρ s.h w)(hf:dB s.nx s1.nx ρ)(h:AK P YR ts y n q k s= .ok x s1):gg P B ρ s s1 w x<|Go.builtin .append ts ty consts vs:=by obtain⟨vs⟩:=vs;simp only[ay] at hl;obtain⟨v,ys,rfl,hv,hl⟩:=hl;obtain⟨v2,Ef,rfl,rV,rfl⟩:=hl;exact(Zt eU oZ hv rV fi r hf h).op
theorem Zi{args:Array Operand}(eU:A7 B YR)(oZ:∀t a,YQ<|YR t a)(he:∀x v,aG t x=some v->VR ρ v (ev x))(fi:bC s)(r:Rel B ρ s.h w)(hf:dB s.nx s1.nx ρ)(h:oi P b ts args.toList YR t s= .ok x s1)(ho:o.op= .call ⟨.builtin b,args,ts⟩):gg P B ρ s s1 w x<|execOp ev o:=by
 unfold oi at h;obtain⟨vs,h1,h2⟩:=bw h;have hl:=Fi he h1;have key:(∃y n q k,b= .append/\vs=[y,.U n q k]/\AK P YR ts y n q k s= .ok x s1)\/yM P b ts vs s= .ok x s1:=by
  split at h2
  ·exact .inl ⟨_,_,_,_,rfl,rfl,h2⟩
  ·exact .inr h2
 have all:∀consts:Array Bool,gg P B ρ s s1 w x<|Go.builtin b ts o.type consts<|args.map ev:=fun consts=>by
  rcases key with⟨y,n,q,k,rfl,rfl,h2⟩|h2
  ·exact ZV eU oZ (by simpa using hl) fi r hf h2
  ·exact Zh (vs:=args.map ev) (by simpa using hl) fi r hf h2
 have:=all (args.map fun| .const _=>true|_=>false);obtain⟨σ,w',nv,a1,a2,a3⟩:=this;refine⟨σ,w',nv,a1,?_,a3⟩;simp only[execOp,ho,resolve,Sem.run_bind,Sem.run_pure,Result.andThen_ok,invoke];exact a2
end
end Go.Rn
namespace Go.Rn
open Go.RowKit
variable {key a:AV} {v:Value} {r:Option<|Nat×AV} {kd:TypeDesc} {k:TypeId} {l:List MapEntry} {es:List<|AV×AV}
section
variable {P:Program} {B:aI} {ρ:Ren} {w:World} {s s1:AS} {x:AV} {YR:aJ} {t:Tr AV} {ev:Operand->Value} {o:Oper}
theorem LK{em:Bool}{d:Nat}{BP:TypeId->AV->Bool}(hc:∀ty a v,BP ty a=true->VR ρ a v->(Instr.checkKey em d ty v).run P w= .ok () w){cs:List AV}{ds:Array Value}(hx:ay ρ cs ds.toList):∀{fs:List Field},EV P BP cs fs=true->
 (forIn fs PUnit.unit fun f _=>do
  if f.name≠ "_" then do
   Instr.checkKey em d f.type (←part f.type ds f.offset)
   pure (ForInStep.yield PUnit.unit)
  else pure (ForInStep.yield PUnit.unit):Sem PUnit).run P w= .ok PUnit.unit w
 |[],_=>rfl
 |f::fs,h=>by
  simp only[EV] at h;rw[List.forIn_cons];cases en:(f.name == "_") with
  |true=>
   simp only[en] at h;have:¬(f.name≠ "_"):=by simpa using en
   rw[if_neg this];simp only[Sem.run_bind,Sem.run_pure,Result.andThen_ok];exact LK hc hx h
  |false=>
   simp only[en] at h;have ch:f.name≠ "_" :=by intro e;rw[e] at en;simp at en
   rw[if_pos ch];cases e1:vq P f.type cs f.offset with
   |none=>simp only[e1] at h;cases h
   |some a=>
    simp only[e1] at h;obtain⟨v,g1,g2⟩:=EW (w:=w) hx e1;cases e2:BP f.type a with
    |false=>simp only[e2] at h;cases h
    |true=>simp only[e2] at h;simp only[Sem.run_bind,Sem.run_pure,Result.andThen_ok,g1,hc _ _ _ e2 g2];exact LK hc hx h
theorem HT{em:Bool}:∀{d:Nat} {ty:TypeId} {a:AV} {v:Value},ox P d ty a=true->VR ρ a v->(Instr.checkKey em d ty v).run P w= .ok () w
 |0,_,_,_,h,_=>by simp only[ox] at h;cases h
 |d+1,ty,a,v,h,ha=>by
  simp only[ox] at h;rw[Instr.checkKey];split at h<;>first|(cases h;done)|skip
  ·rename_i e;simp[dv e]
  ·rename_i e;simp[dv e]
  ·rename_i e;simp[dv e]
  ·rename_i fs cs e;simp only[VR] at ha;obtain⟨ds,rfl,hl⟩:=ha;simp only[Sem.run_bind,dv e,Result.andThen_ok];have:=LK (P:=P) (w:=w) (em:=em) (d:=d) (fun ty a v h1 h2=>HT h1 h2) hl h;rw[←Array.forIn_toList];simp only[this,Result.andThen_ok,Sem.run_pure]
theorem EN{b:AV}{c:Bool}{u:Value}(hk:P.underlying k=some kd)(hp:plainKey P k a=true)(h:sameKey a b=some c)(ha:VR ρ a v)(hb:VR ρ b u):Instr.sameNow kd v u=some c:=by
 unfold plainKey at hp;rw[hk] at hp;unfold sameKey at h;split at h<;>first|(cases h;done)|skip
 ·rename_i k1 x1 k2 x2;simp only[VR] at ha hb;subst ha;subst hb;cases Qm:decide (k1=k2) with
  |false=>rw[Qm] at h;cases h
  |true=>
   rw[Qm] at h;injection h with h;subst h
   have:=of_decide_eq_true Qm;cases kd<;>first|(cases hp;done)|simp[Instr.sameNow,this]
 ·injection h with h;subst h
  simp only[VR] at ha hb;subst ha;subst hb;cases kd<;>first|(cases hp;done)|simp[Instr.sameNow]
 ·injection h with h;subst h
  simp only[VR] at ha hb;subst ha;subst hb;cases kd<;>first|(cases hp;done)|simp[Instr.sameNow]
def Dt(ρ:Ren)(es:List<|AV×AV)(l:List MapEntry)(i:Nat):Option (Nat×AV)->Option (Nat×Value)->Prop
 |none,r=>r=none
 |some (j,x),r=>∃y q e,r=some (j,y)/\VR ρ x y/\i<=j/\es[j - i]? =some q/\l[j - i]? =some e/\VR ρ q.1 e.key/\q.2=x/\e.val=y
theorem Dt.next{i:Nat}{p:AV×AV}{e:MapEntry}{r':Option<|Nat×Value}(h:Dt ρ es l (i+1) r r'):Dt ρ (p::es) (e::l) i r r':=by
 cases r with
 |none=>exact h
 |some q=>
  obtain⟨j,x⟩:=q;obtain⟨y,q,e2,h1,h2,h3,h4,h5,h6⟩:=h;refine⟨y,q,e2,h1,h2,by omega,?_,?_,h6⟩
  ·rw[show j - i=(j - (i+1))+1 from by omega];simpa using h4
  ·rw[show j - i=(j - (i+1))+1 from by omega];simpa using h5
theorem Ry{k:TypeId}{kd:TypeDesc}{key:AV}{v:Value}(hk:P.underlying k=some kd)(hp:plainKey P k key=true)(hv:VR ρ key v):∀{es:List<|AV×AV} {l:List MapEntry} {i:Nat} {r:Option<|Nat×AV},
 dP ρ es l->kR key es i=some r->∃r',Instr.findNow kd v l i=some r'/\Dt ρ es l i r r'
 |[],l,i,r,he,h=>by
  have GV:l=[]:=he;subst GV;simp only[kR] at h;injection h with h;subst h
  exact⟨none,rfl,rfl⟩
 |(a,b)::es,l,i,r,he,h=>by
  obtain⟨e,l',rfl,h1,h2,h3⟩:=he;simp only[kR] at h;cases q:sameKey key a with
  |none=>rw[q] at h;cases h
  |some c=>
   have:=EN hk hp q hv h1;cases c with
   |true=>
    simp only[q] at h;injection h with h;subst h
    exact⟨some (i,e.val),by simp only[Instr.findNow,this],e.val,(a,b),e,rfl,h2,Nat.le_refl _,by simp,by simp,h1,rfl,rfl⟩
   |false=>simp only[q] at h;obtain⟨r',g1,g2⟩:=Ry hk hp hv h3 h;exact⟨r',by simp only[Instr.findNow,this];exact g1,g2.next⟩
theorem RE{k:TypeId}{key:AV}{v:Value}(hv:VR ρ key v):∀{es:List<|AV×AV} {l:List MapEntry} {i:Nat} {r:Option<|Nat×AV},
 dP ρ es l->Fg P k key es i=some r->∃r',(Instr.findAsking k v l i).run P w= .ok r' w/\Dt ρ es l i r r'
 |[],l,i,r,he,h=>by
  have GV:l=[]:=he;subst GV;simp only[Fg] at h;injection h with h;subst h
  exact⟨none,rfl,rfl⟩
 |(a,b)::es,l,i,r,he,h=>by
  obtain⟨e,l',rfl,h1,h2,h3⟩:=he;simp only[Fg] at h;cases q:pQ P Op.maxDepth k key a with
  |none=>rw[q] at h;cases h
  |some c=>
   have hq:(Op.equal k v e.key).run P w= .ok c w:=IG q hv h1;cases c with
   |true=>
    simp only[q] at h;injection h with h;subst h
    exact⟨some (i,e.val),by simp[Instr.findAsking,hq],e.val,(a,b),e,rfl,h2,Nat.le_refl _,by simp,by simp,h1,rfl,rfl⟩
   |false=>simp only[q] at h;obtain⟨r',g1,g2⟩:=RE hv h3 h;exact⟨r',by simp[Instr.findAsking,hq,g1],g2.next⟩
theorem aeD{k:IntKind}{n:Int}(ha:VR ρ a<|.int k n):a= .int k n:=by
 cases a<;>(try simp only[VR] at ha)<;>first|(cases ha;rfl)|(cases ha;done)|skip
 ·rename_i q;cases q<;>simp only[VR] at ha<;>first|(cases ha;done)|(obtain⟨_,_,_,e⟩:=ha;cases e)
 ·rename_i q l c;cases q with
  |none=>obtain⟨_,_,e⟩:=lN ha;cases e
  |some q=>obtain⟨n,i⟩:=q;obtain⟨_,_,_,_,_,e⟩:=uL ha;cases e
 ·rcases ha with⟨_,_,_,_,e,_⟩|⟨_,_,_,_,e,_⟩<;>cases e
 ·obtain⟨_,_,_,e⟩:=ha;cases e
 ·rename_i q;cases q<;>simp only[VR] at ha<;>first|(cases ha;done)|(obtain⟨_,_,_,e⟩:=ha;cases e)
 ·obtain⟨_,_,_,e,_⟩:=ha;cases e
 ·obtain⟨_,_,_,e⟩:=ha;cases e
 ·obtain⟨_,e,_⟩:=ha;cases e
 ·obtain⟨_,e,_⟩:=ha;cases e
 ·obtain⟨_,e,_⟩:=ha;cases e
theorem aeE{q:ByteArray}(hz:ug a=true)(ha:VR ρ a<|.string q):a= .str q:=by
 cases a<;>(try cases hz;done)<;>(try simp only[VR] at ha)<;>first|(cases ha;rfl)|(cases ha;done)|skip
 ·rename_i q;cases q<;>simp only[VR] at ha<;>first|(cases ha;done)|(obtain⟨_,_,_,e⟩:=ha;cases e)
 ·rename_i q l c;cases q with
  |none=>obtain⟨_,_,e⟩:=lN ha;cases e
  |some q=>obtain⟨n,i⟩:=q;obtain⟨_,_,_,_,_,e⟩:=uL ha;cases e
 ·rcases ha with⟨_,_,_,_,e,_⟩|⟨_,_,_,_,e,_⟩<;>cases e
 ·obtain⟨_,_,_,e⟩:=ha;cases e
 ·rename_i q;cases q<;>simp only[VR] at ha<;>first|(cases ha;done)|(obtain⟨_,_,_,e⟩:=ha;cases e)
 ·obtain⟨_,_,_,e,_⟩:=ha;cases e
 ·obtain⟨_,_,_,e⟩:=ha;cases e
 ·obtain⟨_,e,_⟩:=ha;cases e
 ·obtain⟨_,e,_⟩:=ha;cases e
 ·obtain⟨_,e,_⟩:=ha;cases e
theorem Uw{b:Bool}(ha:VR ρ a<|.bool b):a= .bool b:=by
 cases a<;>(try simp only[VR] at ha)<;>first|(cases ha;rfl)|(cases ha;done)|skip
 ·rename_i q;cases q<;>simp only[VR] at ha<;>first|(cases ha;done)|(obtain⟨_,_,_,e⟩:=ha;cases e)
 ·rename_i q l c;cases q with
  |none=>obtain⟨_,_,e⟩:=lN ha;cases e
  |some q=>obtain⟨n,i⟩:=q;obtain⟨_,_,_,_,_,e⟩:=uL ha;cases e
 ·rcases ha with⟨_,_,_,_,e,_⟩|⟨_,_,_,_,e,_⟩<;>cases e
 ·obtain⟨_,_,_,e⟩:=ha;cases e
 ·rename_i q;cases q<;>simp only[VR] at ha<;>first|(cases ha;done)|(obtain⟨_,_,_,e⟩:=ha;cases e)
 ·obtain⟨_,_,_,e,_⟩:=ha;cases e
 ·obtain⟨_,_,_,e⟩:=ha;cases e
 ·obtain⟨_,e,_⟩:=ha;cases e
 ·obtain⟨_,e,_⟩:=ha;cases e
 ·obtain⟨_,e,_⟩:=ha;cases e
theorem abO(hk:P.underlying k=some kd)(hz:ug key=true)(hp:plainKey P k key=false)(hv:VR ρ key v)(u:Value):Instr.sameNow kd v u=none:=by
 cases e:Instr.sameNow kd v u with
 |none=>rfl
 |some c=>
  exfalso;unfold Instr.sameNow at e;unfold plainKey at hp;rw[hk] at hp;split at e<;>first|(cases e;done)|skip
  ·rw[aeD hv] at hp;cases hp
  ·rw[aeE hz hv] at hp;cases hp
  ·rw[Uw hv] at hp;cases hp
theorem Vt{o:Option<|Option<|Nat×AV}(h:(match ug key with|false=>none|true=>o)=some r):ug key=true:=by
 cases hz:ug key with
 |false=>rw[hz] at h;cases h
 |true=>rfl
theorem RU(hk:P.underlying k=some kd)(hv:VR ρ key v)(he:dP ρ es l)(h:findKey P k key es=some r):
 ∃r',(Instr.findKey k v l).run P w= .ok r' w/\Dt ρ es l 0 r r':=by
 unfold findKey at h;cases hz:ug key with
 |false=>rw[hz] at h;cases h
 |true=>
 simp only[hz] at h;cases hp:plainKey P k key with
 |true=>simp only[hp] at h;obtain⟨r',g1,g2⟩:=Ry hk hp hv he h;exact⟨r',MapKept.run_findKey hk g1,g2⟩
 |false=>
  simp only[hp] at h;obtain⟨r',g1,g2⟩:=RE (P:=P) (w:=w) hv he h;refine⟨r',?_,g2⟩;cases l with
  |nil=>
   have BT:Result.ok none w=Result.ok r' w:=g1;injection BT with BT;subst BT
   exact MapKept.run_findKey hk rfl
  |cons e l=>
   have:Instr.findNow kd v (e::l) 0=none:=by simp only[Instr.findNow,abO hk hz hp hv e.key]
   simp only[Instr.findKey,Sem.run_bind,dv hk,Result.andThen_ok,this];exact g1
theorem LH:∀{es:List<|AV×AV} {i:Nat},kR key es i=some none->∀p∈es,sameKey key p.1=some false
 |[],_,_,p,hp=>by cases hp
 |(a,b)::es,i,h,p,hp=>by
  simp only[kR] at h;cases q:sameKey key a with
  |none=>rw[q] at h;cases h
  |some c=>
   cases c with
   |true=>simp only[q] at h;cases h
   |false=>
    simp only[q] at h;rcases List.mem_cons.1 hp with rfl|hp
    ·exact q
    ·exact LH h p hp
theorem Ru{key:AV}:∀{es:List<|AV×AV} {i j:Nat} {x:AV},kR key es i=some (some (j,x))->i<=j/\∃q,es[j - i]? =some q/\q.2=x/\sameKey key q.1=some true
 |[],_,_,_,h=>by simp[kR] at h
 |(a,b)::es,i,j,x,h=>by
  simp only[kR] at h;cases q:sameKey key a with
  |none=>rw[q] at h;cases h
  |some c=>
   cases c with
   |true=>
    simp only[q] at h;injection h with h;injection h with h;injection h with h1 h2;subst h1;subst h2
    exact⟨Nat.le_refl _,(a,b),by simp,rfl,q⟩
   |false=>simp only[q] at h;obtain⟨h1,p,h2,h3⟩:=Ru h;refine⟨by omega,p,?_,h3⟩;rw[show j - i=(j - (i+1))+1 from by omega];simpa using h2
end
end Go.Rn
namespace Go.Rn
open Go.RowKit
variable {v u:Value} {a b key:AV} {l l':List MapEntry} {es:List<|AV×AV} {ty:TypeId} {kd:TypeDesc}
theorem LO(h:sameKey a b=some true)(c:AV):sameKey a c=sameKey b c:=by
 unfold sameKey at h;split at h<;>first|(cases h;done)|skip
 ·rename_i k x k' y;cases hk:decide (k=k') with
  |false=>rw[hk] at h;cases h
  |true=>
   rw[hk] at h;injection h with h
   have e1:=of_decide_eq_true hk;have e2:x=y:=by simpa using h
   rw[e1,e2]
 ·rename_i x y;injection h with h
  rw[bytes_beq] at h;have e:x.toList=y.toList:=by simpa using h
  cases c<;>first|rfl|simp only[sameKey,bytes_beq,e]
 ·rename_i x y;injection h with h
  have e:x=y:=by simpa using h
  rw[e]
theorem LP(a b:AV):sameKey a b=sameKey b a:=by
 cases a<;>cases b<;>first|rfl|skip
 ·rename_i x y;cases x<;>cases y<;>rfl
 ·rename_i k x k' y;by_cases e:k=k'
  ·subst e;show(match decide (k=k) with|true=>some (x == y)|false=>none)=(match decide (k=k) with|true=>some (y == x)|false=>none);rw[decide_eq_true (rfl:k=k)];show some (x == y)=some (y == x);rw[BEq.comm]
  ·show(match decide (k=k') with|true=>some (x == y)|false=>none)=(match decide (k'=k) with|true=>some (y == x)|false=>none);rw[decide_eq_false e,decide_eq_false<|Ne.symm e]
 ·rename_i x y;show some (x == y)=some (y == x);rw[bytes_beq,bytes_beq,BEq.comm]
theorem lu.at{es:List<|AV×AV}(h:lu es){i j:Nat}{p q:AV×AV}(hi:es[i]? =some p)(hj:es[j]? =some q)(ch:i≠j):sameKey p.1 q.1=some false:=by
 unfold lu at h;rw[List.pairwise_iff_getElem] at h;obtain⟨li,ei⟩:=List.getElem?_eq_some_iff.1 hi;obtain⟨lj,ej⟩:=List.getElem?_eq_some_iff.1 hj;rcases Nat.lt_or_ge i j with q'|q'
 ·have:=(h i j li lj q').1;rw[ei,ej] at this;exact this
 ·have:=(h j i lj li aj).2;rw[ei,ej] at this;exact this
theorem Ma{ρ:Ren}(h:sameKey a b=some true)(ha:VR ρ a v)(hb:VR ρ b u)(m:Nat):Instr.sameBits m v u=true:=by
 unfold sameKey at h;split at h<;>first|(cases h;done)|skip
 ·rename_i k x k' y;cases hk:decide (k=k') with
  |false=>rw[hk] at h;cases h
  |true=>
   rw[hk] at h;injection h with h
   simp only[VR] at ha hb;subst ha;subst hb;have e1:=of_decide_eq_true hk;subst e1;cases m<;>simpa[Instr.sameBits] using h
 ·injection h with h
  simp only[VR] at ha hb;subst ha;subst hb;cases m<;>simpa[Instr.sameBits] using h
 ·injection h with h
  simp only[VR] at ha hb;subst ha;subst hb;cases m<;>simpa[Instr.sameBits] using h
theorem RV{ρ:Ren}(m:Nat):∀{xs ys:List AV} {vs us:List Value},CP xs ys=true->ay ρ xs vs->ay ρ ys us->vs.length=us.length/\((vs.zip us).all fun(x,y)=>Instr.sameBits m x y)=true
 |[],[],vs,us,_,h1,h2=>by simp only[ay] at h1 h2;subst h1;subst h2;simp
 |[],_::_,_,_,h,_,_=>by simp[CP] at h
 |_::_,[],_,_,h,_,_=>by simp[CP] at h
 |x::xs,y::ys,vs,us,h,h1,h2=>by
  simp only[ay] at h1 h2;obtain⟨v,vs,rfl,a1,b1⟩:=h1;obtain⟨u,us,rfl,a2,b2⟩:=h2;simp only[CP] at h;cases e:sameKey x y with
  |none=>rw[e] at h;cases h
  |some c=>
   cases c with
   |false=>rw[e] at h;cases h
   |true=>rw[e] at h;obtain⟨p,q⟩:=RV m h b1 b2;exact⟨by simp[p],by simp only[List.zip_cons_cons,List.all_cons,Ma e a1 a2 m,Bool.true_and];exact q⟩
theorem Zj{ρ:Ren}(h:sameBits a b=true)(ha:VR ρ a v)(hb:VR ρ b u)(m:Nat):Instr.sameBits (m+1) v u=true:=by
 unfold sameBits at h;split at h
 ·rename_i xs ys;simp only[VR] at ha hb;obtain⟨vs,rfl,h1⟩:=ha;obtain⟨us,rfl,h2⟩:=hb;obtain⟨p,q⟩:=RV m h h1 h2;simp only[Instr.sameBits,Bool.and_eq_true,beq_iff_eq];exact⟨by simpa using p,q⟩
 ·split at h
  ·rename_i e;exact Ma e ha hb _
  ·cases h
theorem SO{P:Program}{w:World}(h:Instr.sameBits 10000 v u=true):(Instr.keyThatStays v u).run P w= .ok u w:=by simp[Instr.keyThatStays,h]
theorem RF:∀{l:List MapEntry} {i:Nat},(∀e∈l,Instr.sameNow kd v e.key=some false)->Instr.findNow kd v l i=some none
 |[],_,_=>rfl
 |e::l,i,h=>by simp only[Instr.findNow,h e List.mem_cons_self];exact RF fun e he=>h e<|List.mem_cons_of_mem _ he
theorem RG{kd:TypeDesc}{v:Value}:∀{l:List MapEntry} {i:Nat},(∀e∈l,∃c,Instr.sameNow kd v e.key=some c)->(∃e∈l,Instr.sameNow kd v e.key=some true)->
 ∃j e,l[j]? =some e/\Instr.sameNow kd v e.key=some true/\Instr.findNow kd v l i=some (some (i+j,e.val))
 |[],_,_,h=>by obtain⟨_,h,_⟩:=h;cases h
 |e::l,i,h,k=>by
  obtain⟨c,hc⟩:=h e List.mem_cons_self;cases c with
  |true=>exact⟨0,e,rfl,hc,by simp only[Instr.findNow,hc,Nat.add_zero]⟩
  |false=>
   obtain⟨e2,h2,h3⟩:=k;have rW:e2∈l:=by
    rcases List.mem_cons.1 h2 with rfl|h2
    ·rw[hc] at h3;cases h3
    ·exact h2
   obtain⟨j,e3,g1,g2,g3⟩:=RG (i:=i+1) (fun e he=>h e<|List.mem_cons_of_mem _ he) ⟨e2,rW,h3⟩;exact⟨j+1,e3,by simpa using g1,g2,by simp only[Instr.findNow,hc];rw[g3];congr 3;omega⟩
section
variable {P:Program} {B:aI} {ρ:Ren} {w:World} {s s1:AS} {x:AV} {YR:aJ} {t:Tr AV} {ev:Operand->Value} {o:Oper}
theorem dP.get:∀{es:List<|AV×AV} {l:List MapEntry} {i:Nat} {e:MapEntry},dP ρ es l->l[i]? =some e->∃p,es[i]? =some p/\VR ρ p.1 e.key/\VR ρ p.2 e.val
 |[],l,i,e,h,k=>by have h':l=[]:=h;subst h';simp at k
 |p::es,l,i,e,h,k=>by
  obtain⟨e2,l2,rfl,h1,h2,h3⟩:=h;cases i with
  |zero=>simp at k;subst k;exact⟨p,rfl,h1,h2⟩
  |succ i=>simp at k;obtain⟨q,g1,g2⟩:=h3.get k;exact⟨q,by simpa using g1,g2⟩
theorem dP.get'{i:Nat}{p:AV×AV}(h:dP ρ es l)(k:es[i]? =some p):∃e,l[i]? =some e/\VR ρ p.1 e.key/\VR ρ p.2 e.val:=by obtain⟨li,ei⟩:=List.getElem?_eq_some_iff.1 k;have hl:=h.length;have hi:l[i]? =some (l[i]'aj):=List.getElem?_eq_getElem _;obtain⟨q,g1,g2⟩:=h.get hi;rw[k] at g1;cases g1;exact⟨_,hi,g2⟩
theorem RX{k:TypeId}{r:Option<|Nat×AV}(hk:P.underlying k=some kd)(hp:plainKey P k key=true)(hv:VR ρ key v)(ka:lu es)(he:dP ρ es l')(hl:l.Perm l')(h:kR key es 0=some r):
 (r=none->Instr.findNow kd v l 0=some none)/\(∀j y,r=some (j,y)->∃j' e,Instr.findNow kd v l 0=some (some (j',e.val))/\l[j']? =some e/\l'[j]? =some e/\VR ρ y e.val/\∃p,es[j]? =some p/\sameKey key p.1=some true):=by
 have ar:∀e∈l,∃(j:Nat) (p:AV×AV),l'[j]? =some e/\es[j]? =some p/\VR ρ p.1 e.key/\VR ρ p.2 e.val:=by
  intro e hm;obtain⟨j,hj,e1⟩:=List.getElem_of_mem<|hl.mem_iff.1 hm;have rY:l'[j]? =some e:=by rw[List.getElem?_eq_getElem hj,e1]
  obtain⟨p,g1,g2,g3⟩:=he.get rY;exact⟨j,p,rY,g1,g2,g3⟩
 constructor
 ·intro hr;subst hr;refine RF fun e hm=>?_;obtain⟨j,p,g1,g2,g3,g4⟩:=ar e hm;exact EN hk hp (LH h p<|List.mem_of_getElem? g2) hv g3
 ·intro j y hr;subst hr;obtain⟨_,q,h1,h2,h3⟩:=Ru h;rw[Nat.sub_zero] at h1;have all:∀e∈l,∃(j2:Nat) (p:AV×AV),l'[j2]? =some e/\es[j2]? =some p/\VR ρ p.2 e.val/\Instr.sameNow kd v e.key=some (decide<|j2=j):=by
   intro e hm;obtain⟨j2,p,g1,g2,g3,g4⟩:=ar e hm;refine⟨j2,p,g1,g2,g4,?_⟩;by_cases e2:j2=j
   ·subst e2;rw[h1] at g2;cases g2;simp only[decide_true];exact EN hk hp h3 hv g3
   ·rw[decide_eq_false e2];refine EN hk hp ?_ hv g3;rw[LO h3];exact ka.at h1 g2<|Ne.symm e2
  obtain⟨e0,g1,g2,g3⟩:=he.get' h1;have zQ:e0∈l:=hl.mem_iff.2<|List.mem_of_getElem? g1;obtain⟨j',e,f1,f2,f3⟩:=RG (kd:=kd) (v:=v) (l:=l) (i:=0) (fun e hm=>let ⟨_,_,_,_,_,h⟩:=all e hm;⟨_,h⟩) ⟨e0,zQ,EN hk hp h3 hv g2⟩;rw[Nat.zero_add] at f3;obtain⟨j2,p,a1,a2,a3,a4⟩:=all e<|List.mem_of_getElem? f1;rw[f2] at a4;injection a4 with a4
  have e2:j2=j:=by simpa using a4.symm
  subst e2;rw[h1] at a2;cases a2;exact⟨j',e,f3,f1,a1,by rw[←h2];exact a3,q,h1,h3⟩
theorem ZW(h:short es=true)(he:dP ρ es l')(hl:l.Perm l'):dP ρ es l:=by
 have hlen:=he.length;unfold short at h;split at h<;>first|(cases h;done)|skip
 ·have:l'=[]:=by cases l'<;>first|rfl|simp at hlen
  subst this;rw[List.perm_nil.1 hl];exact he
 ·match l',hlen,hl,he with
  |[e],_,hl,he=>rw[List.perm_singleton.1 hl];exact he
theorem VR.zP{ok b:Bool}{y:AV}{v:Value}(h:VR ρ y v):VR ρ (zP ok y b) (if ok=true then .tuple #[v,.bool b] else v):=by
 cases ok with
 |false=>exact h
 |true=>simp only[Rn.zP,if_true,VR,ay];exact⟨_,rfl,v,_,rfl,h,.bool b,_,rfl,rfl,rfl⟩
theorem Mb:∀{d:Nat} {k:TypeId} {key:AV},ox P d k key=true->∃kd,P.underlying k=some kd
 |0,_,_,h=>by simp only[ox] at h;cases h
 |d+1,k,key,h=>by
  simp only[ox] at h;cases q:P.underlying k with
  |none=>rw[q] at h;cases h
  |some kd=>exact⟨kd,rfl⟩
theorem Zu{ok:Bool}{va vk:Value}(ha:VR ρ a va)(pJ:VR ρ key vk)(fi:bC s)(r:Rel B ρ s.h w)(h:yR P ty a key ok s= .ok x s1):
 jV P B ρ s s1 w x (Instr.lookup ty va vk ok):=by
 unfold yR at h;cases e1:P.underlying ty with
 |none=>simp only[e1] at h;cases h
 |some d=>
  cases d<;>simp only[e1] at h<;>first|(cases h;done)|skip
  rename_i k e;obtain⟨es,s2,h1,h2⟩:=M.aN h;obtain⟨h3,h4⟩:=cX h2;obtain⟨f,h5,h6⟩:=bw h4;have rZ:∃kd,P.underlying k=some kd:=by exact Mb h3
  obtain⟨kd,rZ⟩:=rZ;have wc:∀em,(Instr.checkKey em 10000 k vk).run P w= .ok () w:=fun em=>HT h3 pJ;have main:∃l:Array MapEntry,((va= .map none/\l= #[])\/∃b bq,va= .map (some b)/\w.heap[b]? =some (.map l bq))/\s2.h=s.h/\s2.nx=s.nx/\
   ∃r',(Instr.findKey k vk l.toList).run P w= .ok r' w/\(f=none->r'=none)/\(∀j y,f=some (j,y)->∃j' z,r'=some (j',z)/\VR ρ y z):=by
   have exact:∀l:Array MapEntry,dP ρ es l.toList->∃r',(Instr.findKey k vk l.toList).run P w= .ok r' w/\(f=none->r'=none)/\(∀j y,f=some (j,y)->∃j' z,r'=some (j',z)/\VR ρ y z):=by intro l he;obtain⟨r',g1,g2⟩:=RU (P:=P) (w:=w) rZ pJ he h5;refine⟨r',g1,fun q=>by subst q;exact g2,fun j y q=>?_⟩;subst q;obtain⟨z,_,_,q1,q2,_⟩:=g2;exact⟨j,z,q1,q2⟩
   unfold yX at h1;split at h1
   ·obtain⟨rfl,rfl⟩:=bB h1;simp only[VR] at ha;subst ha;exact⟨#[],.inl ⟨rfl,rfl⟩,rfl,rfl,exact #[] rfl⟩
   ·rename_i m;obtain⟨ob,s3,h7,h8⟩:=M.aN h1;obtain⟨hx,hg,hh,ct⟩:=fX h7;have ht:m<top:=Nat.lt_of_lt_of_le hx fi.nx;simp only[VR] at ha;obtain⟨b,N,hm,rfl⟩:=ha;obtain⟨o',hb,hO,_⟩:=r.block ht hg hm;cases ob with
    |map gY bq=>obtain⟨rfl,rfl⟩:=bB h8;obtain⟨l,rfl,_,q⟩:=hO;exact⟨l,.inr ⟨b,bq,rfl,hb⟩,hh,ct,exact l q.eqs⟩
    |lv gY=>
     obtain⟨h9,gG⟩:=cX h8;obtain⟨rfl,rfl⟩:=bB gG;obtain⟨l,bq,rfl,ka,_,l',hp,he⟩:=hO;refine⟨l,.inr ⟨b,bq,rfl,hb⟩,hh,ct,?_⟩;cases q:plainKey P k key with
     |false=>rw[q] at h9;exact exact l<|ZW h9 he hp
     |true=>
      unfold findKey at h5;have hz:ug _=true:=Vt h5;simp only[hz] at h5;simp only[q] at h5;obtain⟨g1,g2⟩:=RX rZ q pJ ka he hp h5;cases f with
      |none=>exact⟨none,MapKept.run_findKey rZ<|g1 rfl,(fun _=>rfl),(fun j y e=>by cases e)⟩
      |some p=>obtain⟨j,y⟩:=p;obtain⟨j',e,f1,_,_,f2,_⟩:=g2 j y rfl;exact⟨some (j',e.val),MapKept.run_findKey rZ f1,(fun e=>by cases e),(fun j y e2=>by cases e2;exact⟨j',_,rfl,f2⟩)⟩
    |_=>cases h8
   ·cases h1
  obtain⟨l,m1,m2,m3,r',m4,m5,m6⟩:=main;cases f with
  |some p=>
   obtain⟨j,y⟩:=p;obtain⟨rfl,rfl⟩:=bB h6;obtain⟨j',z,rfl,hz⟩:=m6 j y rfl;refine⟨ρ,w,_,by rw[m3];exact Ext.refl _ _ _,?_,hz.zP,by rw[m2];exact r,cx.refl _ _⟩;rcases m1 with⟨rfl,rfl⟩|⟨b,bq,rfl,hb⟩
   ·simp only[Instr.lookup,Sem.run_bind,dv e1,Result.andThen_ok,wc,m4,Sem.run_pure]
   ·simp only[Instr.lookup,Sem.run_bind,dv e1,Result.andThen_ok,MapKept.run_getObj_map hb,wc,m4,Sem.run_pure]
  |none=>
   obtain⟨z,h7,h8⟩:=bw h6;obtain⟨rfl,rfl⟩:=bB h8;have:=m5 rfl;subst this;obtain⟨vz,g1,g2⟩:=HC (P:=P) (w:=w) ρ h7;refine⟨ρ,w,_,by rw[m3];exact Ext.refl _ _ _,?_,g2.zP,by rw[m2];exact r,cx.refl _ _⟩;rcases m1 with⟨rfl,rfl⟩|⟨b,bq,rfl,hb⟩
   ·simp only[Instr.lookup,Sem.run_bind,dv e1,Result.andThen_ok,wc,m4,Sem.run_pure,g1]
   ·simp only[Instr.lookup,Sem.run_bind,dv e1,Result.andThen_ok,MapKept.run_getObj_map hb,wc,m4,Sem.run_pure,g1]
theorem Zv{y z:Operand}{ok:Bool}(he:∀x v,aG t x=some v->VR ρ v (ev x))(fi:bC s)(r:Rel B ρ s.h w)(h:wX P ty y z ok YR t s= .ok x s1)(ho:o.op= .lookup ty y z ok):gg P B ρ s s1 w x<|execOp ev o:=by unfold wX at h;obtain⟨a,h1,h2⟩:=bw h;obtain⟨b,h3,h4⟩:=bw h2;have:=(Zu (P:=P) (he y a h1) (he z b h3) fi r h4).op;simpa only[execOp,ho] using this
end
end Go.Rn
namespace Go.Rn
open Go.RowKit
variable {key:AV} {vv vk:Value} {es:List<|AV×AV} {e:MapEntry} {ty:TypeId} {l:List MapEntry} {i bq:Nat}
theorem SP:∀(es:List<|AV×AV) (i j:Nat) (k v:AV),(putAt es i k v)[j]? =if j=i then(es[j]?).map (fun _=>(k,v)) else es[j]?
 |[],i,j,k,v=>by simp[putAt]
 |p::es,0,j,k,v=>by cases j<;>simp[putAt]
 |p::es,i+1,j,k,v=>by
  cases j with
  |zero=>simp[putAt]
  |succ j=>simp[putAt,SP es i j k v]
theorem RH:∀(es:List<|AV×AV) (i:Nat) (k v:AV),(putAt es i k v).length=es.length
 |[],_,_,_=>rfl
 |_::_,0,_,_=>rfl
 |_::es,i+1,k,v=>by simp[putAt,RH es i k v]
def rh(k v:Value)(e:MapEntry):MapEntry:={e with key:=k,val:=v}
theorem j0.put{ρ:Ren}{val:AV}(hk:VR ρ key vk)(hv:VR ρ val vv):∀{es:List<|AV×AV} {l:List MapEntry} {n i:Nat},j0 ρ es l n->j0 ρ (putAt es i key val) (l.modify i<|rh vk vv) n
 |[],l,n,i,h=>by have h':l=[]:=h;subst h';cases i<;>rfl
 |p::es,l,n,0,h=>by obtain⟨e,l',rfl,a,b,c,d⟩:=h;exact⟨rh vk vv e,l',rfl,hk,hv,c,d⟩
 |p::es,l,n,i+1,h=>by obtain⟨e,l',rfl,a,b,c,d⟩:=h;exact⟨e,l'.modify i<|rh vk vv,rfl,a,b,c,d.put hk hv⟩
theorem dP.put{ρ:Ren}{val:AV}(hk:VR ρ key vk)(hv:VR ρ val vv):∀{es:List<|AV×AV} {l:List MapEntry} {i:Nat},dP ρ es l->dP ρ (putAt es i key val) (l.modify i<|rh vk vv)
 |[],l,i,h=>by have h':l=[]:=h;subst h';cases i<;>rfl
 |p::es,l,0,h=>by obtain⟨e,l',rfl,a,b,d⟩:=h;exact⟨rh vk vv e,l',rfl,hk,hv,d⟩
 |p::es,l,i+1,h=>by obtain⟨e,l',rfl,a,b,d⟩:=h;exact⟨e,l'.modify i<|rh vk vv,rfl,a,b,d.put hk hv⟩
theorem j0.push{ρ:Ren}{val:AV}(hk:VR ρ key e.key)(hv:VR ρ val e.val):∀{es:List<|AV×AV} {l:List MapEntry} {n:Nat},j0 ρ es l n->e.born=n+es.length->j0 ρ (es++[(key,val)]) (l++[e]) n
 |[],l,n,h,hb=>by have h':l=[]:=h;subst h';exact⟨e,[],rfl,hk,hv,hb,rfl⟩
 |p::es,l,n,h,hb=>by obtain⟨e2,l',rfl,a,b,c,d⟩:=h;exact⟨e2,l'++[e],rfl,a,b,c,d.push hk hv (by simp at hb;omega)⟩
theorem dP.push{ρ:Ren}{val:AV}(hk:VR ρ key e.key)(hv:VR ρ val e.val):∀{es:List<|AV×AV} {l:List MapEntry},dP ρ es l->dP ρ (es++[(key,val)]) (l++[e])
 |[],l,h=>by have h':l=[]:=h;subst h';exact⟨e,[],rfl,hk,hv,rfl⟩
 |p::es,l,h=>by obtain⟨e2,l',rfl,a,b,d⟩:=h;exact⟨e2,l'++[e],rfl,a,b,d.push hk hv⟩
theorem lu.of(h:∀(i j:Nat) (p q:AV×AV),i≠j->es[i]? =some p->es[j]? =some q->sameKey p.1 q.1=some false):lu es:=by unfold lu;rw[List.pairwise_iff_getElem];intro i j hi hj lI;exact⟨h i j _ _ aj (List.getElem?_eq_getElem hi)<|List.getElem?_eq_getElem hj,h j i _ _ aj (List.getElem?_eq_getElem hj)<|List.getElem?_eq_getElem hi⟩
theorem lu.put(h:lu es){p:AV×AV}{val:AV}(hi:es[i]? =some p)(hk:sameKey key p.1=some true):lu<|putAt es i key val:=by
 refine lu.of fun j k a b hjk ha hb=>?_;rw[SP] at ha hb;by_cases e1:j=i
 ·have e2:k≠i:=by omega
  rw[if_pos e1,e1,hi] at ha;rw[if_neg e2] at hb;simp only[Option.map_some,Option.some.injEq] at ha;rw[←ha];show sameKey key b.1=some false;rw[LO hk];exact h.at hi hb<|Ne.symm e2
 ·rw[if_neg e1] at ha;by_cases e2:k=i
  ·rw[if_pos e2,e2,hi] at hb;simp only[Option.map_some,Option.some.injEq] at hb;rw[←hb];show sameKey a.1 key=some false;rw[LP,LO hk];exact h.at hi ha<|Ne.symm e1
  ·rw[if_neg e2] at hb;exact h.at ha hb hjk
theorem lu.push(h:lu es){val:AV}(hk:∀p∈es,sameKey key p.1=some false):lu<|es++[(key,val)]:=by unfold lu at h ⊢;rw[List.pairwise_append];refine⟨h,by simp,fun a ha b hb=>?_⟩;simp only[List.mem_singleton] at hb;subst hb;exact⟨by rw[LP];exact hk a ha,hk a ha⟩
theorem M7{α:Type}(f:α->α):∀{l:List α} {j:Nat} {e:α},l[j]? =some e->l.Perm (e::l.eraseIdx j)/\(l.modify j f).Perm (f e::l.eraseIdx j)
 |[],j,e,h=>by simp at h
 |a::l,0,e,h=>by simp at h;subst h;exact⟨List.Perm.refl _,List.Perm.refl _⟩
 |a::l,j+1,e,h=>by
  simp at h;obtain⟨p,q⟩:=M7 f h;refine⟨?_,?_⟩
  ·exact(p.cons a).trans<|List.Perm.swap _ _ _
  ·rw[List.modify_succ_cons];exact(q.cons a).trans<|List.Perm.swap _ _ _
theorem aaE{α:Type}(f:α->α){l l':List α}{j:Nat}{e:α}(hl:l.Perm l')(hi:l[i]? =some e)(hj:l'[j]? =some e):(l.modify i f).Perm<|l'.modify j f:=by obtain⟨p,q⟩:=M7 f hi;obtain⟨p',q'⟩:=M7 f hj;have:=((p.symm.trans hl).trans p').cons_inv;exact(q.trans<|this.cons _).trans q'.symm
theorem LX(k v:Value):∀(l:List MapEntry) (i:Nat),(l.modify i<|rh k v).map (·.born)=l.map (·.born)
 |[],i=>by cases i<;>rfl
 |e::l,0=>rfl
 |e::l,i+1=>by rw[List.modify_succ_cons];simp[LX k v l i]
theorem sW.modify(h:sW l bq)(k v:Value)(i:Nat):sW (l.modify i<|rh k v) bq:=by refine⟨by rw[LX];exact h.1,fun e he=>?_⟩;have:e.born∈(l.modify i<|rh k v).map (·.born):=List.mem_map_of_mem he;rw[LX] at this;obtain⟨e2,h2,h3⟩:=List.mem_map.1 this;rw[←h3];exact h.2 e2 h2
theorem sW.push(h:sW l bq)(he:e.born=bq):sW (l++[e])<|bq+1:=by
 refine⟨?_,fun e2 h2=>?_⟩
 ·rw[List.map_append,List.nodup_append];refine⟨h.1,by simp,fun a ha b hb=>?_⟩;simp only[List.map_cons,List.map_nil,List.mem_singleton] at hb;obtain⟨e2,h2,h3⟩:=List.mem_map.1 ha;have:=h.2 e2 h2;omega
 ·rcases List.mem_append.1 h2 with h2|h2
  ·have:=h.2 e2 h2;omega
  ·simp only[List.mem_singleton] at h2;subst h2;omega
section
variable {P:Program} {B:aI} {ρ:Ren} {w:World} {s s1:AS} {x:AV} {YR:aJ} {t:Tr AV} {ev:Operand->Value} {o:Oper}
theorem Cv{w:World}{b:Nat}{o o':Obj}(hb:w.heap[b]? =some o):
 u0 b w {w with heap:=w.heap.setIfInBounds b o'}/\({w with heap:=w.heap.setIfInBounds b o'}:World).heap[b]? =some o':=by
 refine⟨⟨rfl,rfl,rfl,by simp,fun k hk=>?_⟩,?_⟩
 ·show(w.heap.setIfInBounds b o')[k]? =w.heap[k]?;rw[Array.getElem?_setIfInBounds_ne aj]
 ·show(w.heap.setIfInBounds b o')[b]? =some o';exact Array.getElem?_setIfInBounds_self_of_lt<|ib hb
theorem ZX{m val:AV}{vm:Value}{u:Unit}(hm:VR ρ m vm)(pJ:VR ρ key vk)(eV:VR ρ val vv)(fi:bC s)(r:Rel B ρ s.h w)(h:xj P ty m key val s= .ok u s1):
 s1.nx=s.nx/\∃w',(Instr.mapUpdate ty vm vk vv).run P w= .ok () w'/\Rel B ρ s1.h w'/\cx B w w':=by
 unfold xj at h;cases e1:P.underlying ty with
 |none=>simp only[e1] at h;cases h
 |some d=>
  cases d<;>simp only[e1] at h<;>first|(cases h;done)|skip
  rename_i k e;cases m<;>first|(cases h;done)|skip
  rename_i q;cases q with
  |none=>cases h
  |some n=>
   simp only[VR] at hm;obtain⟨b,N,hn,rfl⟩:=hm;obtain⟨ob,s2,h1,h2⟩:=M.aN h;obtain⟨hx,hg,hh,ct⟩:=fX h1;have ht:n<top:=Nat.lt_of_lt_of_le hx fi.nx;obtain⟨o',hb,hO,hB⟩:=r.block ht hg hn;cases ob with
   |map es bq=>
    obtain⟨h3,h4⟩:=cX h2;obtain⟨f,h5,h6⟩:=bw h4;obtain⟨l,rfl,C3,he⟩:=hO;obtain⟨kd,rZ⟩:=Mb h3;have wc:∀em,(Instr.checkKey em 10000 k vk).run P w= .ok () w:=fun em=>HT h3 pJ;obtain⟨r',g1,g2⟩:=RU (P:=P) (w:=w) rZ pJ he.eqs h5;cases f with
    |some p=>
     obtain⟨j,y⟩:=p;obtain⟨z,q,e0,rfl,_,_,q1,q2,q3,_,_⟩:=g2;rw[Nat.sub_zero] at q1 q2;obtain⟨dy,h7,h8⟩:=bw (show(aA es[j]? fun dy=>aF (sameBits dy.1 key) <| bK n<|some<|.map (putAt es j key val) bq) s2= .ok u s1 from h6);obtain⟨h9,gG⟩:=cX h8;rw[q1] at h7;cases h7;have O5:=Zj h9 q3 pJ 9999;obtain⟨_,_,_,i1,i2⟩:=jB gG;obtain⟨g3,g4⟩:=Cv (o':=.map (l.modify j<|rh vk vv) bq) hb;refine⟨by rw[i2,ct],_,?_,?_,g3.below<|hB rfl⟩
     ·have hl:l[j]? =some e0:=by simpa using q2
      simp only[Instr.mapUpdate,Sem.run_bind,dv e1,Result.andThen_ok,MapKept.run_getObj_map hb,wc,g1,hl,Option.map_some,Option.getD_some,SO O5,MapKept.run_setObj_map _ hb];rfl
     ·rw[i1,hh];refine r.put ht hg rfl rfl hn rfl g3 g4 ⟨_,rfl,by rw[RH];exact C3,?_⟩;rw[Array.toList_modify];exact he.put pJ eV
    |none=>
     have zR:r'=none:=g2;subst zR;obtain⟨_,_,_,i1,i2⟩:=jB (show bK n (some<|.map (es++[(key,val)])<|bq+1) s2= .ok u s1 from h6);obtain⟨g3,g4⟩:=Cv (o':=.map (l.push {key:=vk,val:=vv,born:=bq})<|bq+1) hb;refine⟨by rw[i2,ct],_,?_,?_,g3.below<|hB rfl⟩
     ·simp only[Instr.mapUpdate,Sem.run_bind,dv e1,Result.andThen_ok,MapKept.run_getObj_map hb,wc,g1,MapKept.run_setObj_map _ hb]
     ·rw[i1,hh];refine r.put ht hg rfl rfl hn rfl g3 g4 ⟨_,rfl,by simp[C3],?_⟩;rw[Array.toList_push];exact he.push pJ eV (by simp[C3])
   |lv es=>
    obtain⟨h3,h4⟩:=cX h2;obtain⟨f,h5,h6⟩:=bw h4;obtain⟨hp,XF⟩:=and_true.1 h3;obtain⟨l,bq,rfl,ka,zS,l',hl,he⟩:=hO;obtain⟨kd,rZ⟩:=Mb XF;have wc:∀em,(Instr.checkKey em 10000 k vk).run P w= .ok () w:=fun em=>HT XF pJ;unfold findKey at h5;have hz:ug _=true:=Vt h5;simp only[hz] at h5;simp only[hp] at h5;obtain⟨f1,f2⟩:=RX rZ hp pJ ka he hl h5;cases f with
    |some p=>
     obtain⟨j,y⟩:=p;obtain⟨j',e0,a1,a2,a3,a4,q,a5,a6⟩:=f2 j y rfl;obtain⟨_,_,_,i1,i2⟩:=jB (show bK n (some<|.lv<|putAt es j key val) s2= .ok u s1 from h6);obtain⟨g3,g4⟩:=Cv (o':=.map (l.modify j'<|rh vk vv) bq) hb;have hq:VR ρ q.1 e0.key:=by obtain⟨q',b1,b2,_⟩:=he.get a3;rw[a5] at b1;cases b1;exact b2
     have O5:Instr.sameBits 10000 e0.key vk=true:=Ma (by rw[LP];exact a6) hq pJ 10000;refine⟨by rw[i2,ct],_,?_,?_,g3.below<|hB rfl⟩
     ·have ym:l[j']? =some e0:=by simpa using a2
      simp only[Instr.mapUpdate,Sem.run_bind,dv e1,Result.andThen_ok,MapKept.run_getObj_map hb,wc,MapKept.run_findKey rZ a1,ym,Option.map_some,Option.getD_some,SO O5,MapKept.run_setObj_map _ hb];rfl
     ·rw[i1,hh];refine r.put ht hg rfl rfl hn rfl g3 g4 ⟨_,_,rfl,ka.put a5 a6,?_,l'.modify j<|rh vk vv,?_,he.put pJ eV⟩
      ·rw[Array.toList_modify];exact zS.modify _ _ _
      ·rw[Array.toList_modify];exact aaE _ hl a2 a3
    |none=>
     obtain⟨_,_,_,i1,i2⟩:=jB (show bK n (some<|.lv<|es++[(key,val)]) s2= .ok u s1 from h6);obtain⟨g3,g4⟩:=Cv (o':=.map (l.push {key:=vk,val:=vv,born:=bq})<|bq+1) hb;refine⟨by rw[i2,ct],_,?_,?_,g3.below<|hB rfl⟩
     ·simp only[Instr.mapUpdate,Sem.run_bind,dv e1,Result.andThen_ok,MapKept.run_getObj_map hb,wc,MapKept.run_findKey rZ<|f1 rfl,MapKept.run_setObj_map _ hb]
     ·rw[i1,hh];refine r.put ht hg rfl rfl hn rfl g3 g4 ⟨_,_,rfl,ka.push<|LH h5,?_,l'++[{key:=vk,val:=vv,born:=bq}],?_,dP.push (e:={key:=vk,val:=vv,born:=bq}) pJ eV he⟩
      ·rw[Array.toList_push];exact zS.push rfl
      ·rw[Array.toList_push];exact hl.append_right _
   |_=>cases h2
theorem RY{a b c:Operand}(he:∀x v,aG t x=some v->VR ρ v (ev x))(fi:bC s)(r:Rel B ρ s.h w)(h:qd P ty a b c YR t s= .ok x s1)(ho:o.op= .mapUpdate ty a b c\/o.op= .insert ty a b c):gg P B ρ s s1 w x<|execOp ev o:=by unfold qd at h;obtain⟨m,h1,h2⟩:=bw h;obtain⟨k,h3,h4⟩:=bw h2;obtain⟨v,h5,h6⟩:=bw h4;obtain⟨u,s2,h7,h8⟩:=M.aN h6;obtain⟨rfl,rfl⟩:=bB h8;obtain⟨a1,w',a2,a3,a4⟩:=ZX (P:=P) (he a m h1) (he b k h3) (he c v h5) fi r h7;refine⟨ρ,w',.skip,by rw[a1];exact Ext.refl _ _ _,?_,rfl,a3,a4⟩;rcases ho with ho|ho<;>simp[execOp,ho,a2]
end
end Go.Rn
namespace Go.Rn
open Go.RowKit
variable {y:Operand} {ty:TypeId} {es:List<|AV×AV} {b:Nat}
section
variable {P:Program} {B:aI} {ρ:Ren} {w:World} {s s1:AS} {x:AV} {YR:aJ} {t:Tr AV} {ev:Operand->Value} {o:Oper}
theorem j0.born:∀{es:List<|AV×AV} {l:List MapEntry} {n:Nat},j0 ρ es l n->l.map (·.born)=List.range' n es.length
 |[],l,n,h=>by have h':l=[]:=h;subst h';rfl
 |p::es,l,n,h=>by obtain⟨e,l',rfl,a,b,c,d⟩:=h;rw[List.map_cons,c,d.born,List.length_cons,List.range'_succ]
theorem j0.Vu{l:List MapEntry}(h:j0 ρ es l 0):sW l es.length:=by have hb:=h.born;refine⟨by rw[hb];exact List.nodup_range',fun e he=>?_⟩;have:e.born∈l.map (·.born):=List.mem_map_of_mem he;rw[hb,List.mem_range'_1] at this;omega
theorem Rel.ahG{h:Tr ae}(r:Rel B ρ h w){n m:Nat}{p:ae}{N:Nat}{ex:Bool}{l:Array MapEntry}{bq:Nat}(XG:n<top)(GW:ρ n=none)(o5:m<top)(hg:h.get m=some p)(hp:p.plain=true)(cr:p.dk=false)(hm:ρ m=some (b,N))(hb:w.heap[b]? =some (.map l bq))(zS:sW l.toList bq)(h1:ex=true->bq=es.length/\j0 ρ es l.toList 0)(h2:ex=false->lu es/\vZ ρ es l.toList)(h3:vZ ρ es l.toList):
 Rel B (eQ ρ n (w.heap.size,1)) ((h.put m<|some .iy).put n<|some<|.iter m es ex es none) {w with heap:=w.heap.push<|.mapIter (some b) bq #[] bq}:=by
 have hl:ρ.le<|eQ ρ n (w.heap.size,1):=om GW;have rU:m≠n:=by intro e;subst e;rw[hm] at GW;cases GW
 have lZ:h.get n=none:=by
  cases e:h.get n with
  |none=>rfl
  |some p=>obtain⟨_,_,_,h1,_⟩:=r.is n p XG e;rw[GW] at h1;cases h1
 have g:∀k,k<top->((h.put m<|some .iy).put n<|some<|.iter m es ex es none).get k=if k=n then some (.iter m es ex es none) else if k=m then some .iy else h.get k:=by intro k hk;rw[Tr.di _ _ _ _ XG hk,Tr.di _ _ _ _ o5 hk]
 have hw:∀k,k<w.heap.size->(w.heap.push<|.mapIter (some b) bq #[] bq)[k]? =w.heap[k]? :=(gP.alloc w _).block;obtain⟨_,_,_,hB⟩:=r.block o5 hg hm;have size:∀k q,k<top->h.get k=some q->∀b1 N1,ρ k=some (b1,N1)->b1<w.heap.size:=by intro k q hk hq b1 N1 e;obtain⟨b2,N2,o2,e1,e2,_⟩:=r.is k q hk hq;rw[e] at e1;cases e1;exact ib e2
 have dy:∀k q,k<top->(if k=m then some ae.iy else h.get k)=some q->∃q',h.get k=some q'/\(q.dk=false->q'.dk=false):=by
  intro k q hk hq;by_cases e:k=m
  ·subst e;exact⟨p,hg,fun _=>cr⟩
  ·rw[if_neg e] at hq;exact⟨q,hq,id⟩
 refine⟨?_,?_,?_,fun k hk=>r.size k<|Nat.le_trans jI hk,?_,r.fz.of hl (fun b1 uj _=>hw b1 uj) (fun b1 uj hn j q M hj hq gZ e=>by
  rw[g j hj] at hq;by_cases a:j=n
  ·subst a;rw[iQ] at e;cases e;exact absurd uj (Nat.lt_irrefl _)
  ·rw[if_neg a] at hq;rw[gK ρ _ a] at e;obtain⟨q',e1,e2⟩:=dy j q hj hq;exact hn j q' M hj e1 (e2 gZ) e),r.tk.of hl (fun j q hj hq xU=>by
  rw[g j hj] at hq;by_cases a:j=n
  ·rw[if_pos a] at hq;cases hq;cases xU
  ·rw[if_neg a] at hq;by_cases a2:j=m
   ·rw[if_pos a2] at hq;cases hq;cases xU
   ·rw[if_neg a2] at hq;exact hq) jI (fun b1 uj _=>hw b1 uj) (fun b1 uj hn j q M hj hq gZ e=>by
  rw[g j hj] at hq;by_cases a:j=n
  ·subst a;rw[iQ] at e;cases e;exact absurd uj (Nat.lt_irrefl _)
  ·rw[if_neg a] at hq;rw[gK ρ _ a] at e;obtain⟨q',e1,e2⟩:=dy j q hj hq;exact hn j q' M hj e1 (e2 gZ) e) (fun j x sh _ _ e=>by rw[gK ρ _ (by have:=gf j x sh;omega)];exact e)⟩
 ·intro k q hk hq;rw[g k hk] at hq;by_cases e:k=n
  ·subst e;rw[if_pos rfl] at hq;cases hq;refine⟨w.heap.size,1,.mapIter (some b) bq #[] bq,iQ _ _ _,by simp,?_,fun _=>r.size _<|Nat.le_refl _⟩;exact⟨b,N,bq, #[],hl _ _ hm,rfl⟩
  ·rw[if_neg e] at hq;by_cases e2:k=m
   ·subst e2;rw[if_pos rfl] at hq;cases hq;exact⟨b,N,_,hl _ _ hm,(hw b<|ib hb).trans hb,⟨l,bq,rfl⟩,fun _=>hB cr⟩
   ·rw[if_neg e2] at hq;obtain⟨b1,N1,o1,c1,c2,c3,c4⟩:=r.is k q hk hq;exact⟨b1,N1,o1,hl _ _ c1,(hw b1<|ib c2).trans c2,c3.mono hl,c4⟩
 ·intro k j q q' b1 N1 M1 hk hj hq eg cS e1 e2;rw[g k hk] at hq;rw[g j hj] at eg;by_cases a1:k=n
  ·by_cases a2:j=n
   ·omega
   ·rw[if_neg a2] at eg;subst a1;rw[iQ] at e1;cases e1;rw[gK ρ _ a2] at e2;obtain⟨q2,GX,XH⟩:=dy j q' hj eg;exact absurd (size j q2 hj GX _ _ e2)<|Nat.lt_irrefl _
  ·rw[if_neg a1] at hq;rw[gK ρ _ a1] at e1;obtain⟨q1,KY,hr1⟩:=dy k q hk hq;by_cases a2:j=n
   ·subst a2;rw[iQ] at e2;cases e2;exact absurd (size k q1 hk KY _ _ e1)<|Nat.lt_irrefl _
   ·rw[if_neg a2] at eg;rw[gK ρ _ a2] at e2;obtain⟨q2,GX,XH⟩:=dy j q' hj eg;exact r.one k j q1 q2 b1 N1 M1 hk hj KY GX (cS.imp hr1 XH) e1 e2
 ·intro i m' gY iW left cur hi hq;rw[g i hi] at hq;by_cases e:i=n
  ·subst e;rw[if_pos rfl] at hq;cases hq;refine⟨o5,by rw[g m o5,if_neg rU,if_pos rfl],?_⟩;refine⟨w.heap.size,1,b,N,l,bq, #[],iQ _ _ _,hl _ _ hm,by simp,(hw b<|ib hb).trans hb,zS,fun e=>⟨(h1 e).1,(h1 e).2.mono hl⟩,fun e=>⟨(h2 e).1,(h2 e).2.mono hl⟩,?_,rfl⟩;have:(l.toList.filter fun e=> !(#[]:Array Nat).contains e.born)=l.toList:=List.filter_eq_self.2 jI;rw[this];exact h3.mono hl
  ·rw[if_neg e] at hq;by_cases e2:i=m
   ·subst e2;rw[if_pos rfl] at hq;cases hq
   ·rw[if_neg e2] at hq;obtain⟨fc,fu,b1,N1,bm,M,l1,aeF,seen,c1,c2,c3,c4,c5⟩:=r.iter i m' gY iW left cur hi hq;have d1:m'≠n:=by intro e3;subst e3;rw[lZ] at fu;cases fu
    refine⟨fc,?_,mV.mono hl ⟨b1,N1,bm,M,l1,aeF,seen,c1,c2,(hw b1<|ib c3).trans c3,(hw bm<|ib c4).trans c4,c5⟩⟩;rw[g m' fc,if_neg d1];by_cases d2:m'=m
    ·rw[if_pos d2]
    ·rw[if_neg d2];exact fu
 ·have new:∀i,i<top->∀zT zU zi zB,(if i=m then some ae.iy else h.get i)≠some (.iter m zT zU zi zB):=by
   intro i hi zT zU zi zB hq;by_cases e:i=m
   ·rw[if_pos e] at hq;cases hq
   ·rw[if_neg e] at hq;obtain⟨_,fu,_⟩:=r.iter i m _ _ _ _ hi hq;rw[hg] at fu;cases fu;simp[ae.plain] at hp
  intro i j m' zT zU zi zB KZ K0 JM Kc hi hj q1 q2;rw[g i hi] at q1;rw[g j hj] at q2;by_cases e:i=n
  ·by_cases e2:j=n
   ·omega
   ·rw[if_pos e] at q1;rw[if_neg e2] at q2;cases q1;exact absurd q2<|new j hj _ _ _ _
  ·rw[if_neg e] at q1;by_cases e2:j=n
   ·rw[if_pos e2] at q2;cases q2;exact absurd q1<|new i hi _ _ _ _
   ·rw[if_neg e2] at q2;by_cases e3:i=m
    ·rw[if_pos e3] at q1;cases q1
    ·rw[if_neg e3] at q1;by_cases e4:j=m
     ·rw[if_pos e4] at q2;cases q2
     ·rw[if_neg e4] at q2;exact r.lone i j m' _ _ _ _ _ _ _ _ hi hj q1 q2
theorem Zw{m:Option Nat}{c c':Nat}{seen:Array Nat}(hb:w.heap[b]? =some (.mapIter m c seen c')):(getObj b).run P w= .ok (.mapIter m c seen c') w:=by simp[getObj,Sem.run,hb]
theorem Zx{a:AV}{va:Value}(ha:VR ρ a va)(fi:bC s)(r:Rel B ρ s.h w)(hf:dB s.nx s1.nx ρ)(h:AJ P ty a s= .ok x s1):jV P B ρ s s1 w x<|Instr.range ty va:=by
 unfold AJ at h;cases e1:P.underlying ty with
 |none=>simp only[e1] at h;cases h
 |some d=>
  cases d<;>simp only[e1] at h<;>first|(cases h;done)|skip
  cases a<;>first|(cases h;done)|skip
  rename_i q;cases q with
  |none=>cases h
  |some m=>
   simp only[VR] at ha;obtain⟨b,N,hm,rfl⟩:=ha;obtain⟨ob,s2,h1,h2⟩:=M.aN h;obtain⟨hx,hg,hh,ct⟩:=fX h1;have o5:m<top:=Nat.lt_of_lt_of_le hx fi.nx;obtain⟨o',hb,hO,hB⟩:=r.block o5 hg hm;have fin:∀(es:List<|AV×AV) (ex:Bool) (l:Array MapEntry) (bq:Nat),ob.plain=true->ob.dk=false->w.heap[b]? =some (.map l bq)->sW l.toList bq->(ex=true->bq=es.length/\j0 ρ es l.toList 0)->(ex=false->lu es/\vZ ρ es l.toList)->vZ ρ es l.toList->
    ((bK m<|some .iy).bind fun _=>(gC<|.iter m es ex es none).bind fun n=>M.pure<|.ptr<|some (n,0)) s2= .ok x s1->jV P B ρ s s1 w x (Instr.range ty<|.map<|some b):=by
    intro es ex l bq hp cr fm zS p1 p2 p3 h3;obtain⟨u,s3,h4,h5⟩:=M.aN h3;obtain⟨n,s4,h6,h7⟩:=M.aN h5;obtain⟨rfl,rfl⟩:=bB h7;obtain⟨_,_,_,i1,i2⟩:=jB h4;obtain⟨ht,rfl,rfl⟩:=uP h6;have e:s3.nx=s.nx:=i2.trans ct;have jf:ρ s3.nx=none:=hf s3.nx aj (Nat.lt_succ_self _) aj;refine⟨eQ ρ s3.nx (w.heap.size,1),_,.pointer<|some ⟨w.heap.size,0,none⟩,?_,?_,?_,?_,(gP.alloc w<|.mapIter (some b) bq #[] bq).below r.size⟩
    ·rw[←e];exact Ext.my jf
    ·simp only[Instr.range,Sem.run_bind,dv e1,Result.andThen_ok,MapKept.run_getObj_map fm,Sem.run_pure,newObj,Sem.run]
    ·simp only[VR];exact⟨_,_,iQ _ _ _,rfl⟩
    ·show Rel B _ (s3.h.put s3.nx<|some<|.iter m es ex es none) _;rw[i1,hh];exact r.ahG ht jf o5 hg hp cr hm fm zS p1 p2 p3
   cases ob with
   |map es bq=>obtain⟨l,rfl,C3,he⟩:=hO;exact fin es true l bq rfl rfl hb (by rw[C3];exact he.Vu) (fun _=>⟨C3,he⟩) (fun e=>by cases e) ⟨_,List.Perm.refl _,he.eqs⟩ h2
   |lv es=>obtain⟨l,bq,rfl,ka,zS,he⟩:=hO;exact fin es false l bq rfl rfl hb zS (fun e=>by cases e) (fun _=>⟨ka,he⟩) he h2
   |_=>cases h2
theorem ZY(he:∀x v,aG t x=some v->VR ρ v (ev x))(fi:bC s)(r:Rel B ρ s.h w)(hf:dB s.nx s1.nx ρ)(h:A5 P ty y YR t s= .ok x s1)(ho:o.op= .range ty y):gg P B ρ s s1 w x<|execOp ev o:=by unfold A5 at h;obtain⟨a,h1,h2⟩:=bw h;have:=(Zx (P:=P) (he y a h1) fi r hf h2).op;simpa only[execOp,ho] using this
theorem find_born{e:MapEntry}:∀{l:List MapEntry},(l.map (·.born)).Nodup->e∈l->l.find? (·.born == e.born)=some e
 |[],_,h=>by cases h
 |a::l,hn,h=>by
  rw[List.map_cons,List.nodup_cons] at hn;rcases List.mem_cons.1 h with rfl|h
  ·simp
  ·have:(a.born == e.born)=false:=by rw[beq_eq_false_iff_ne];intro q;exact hn.1 (by rw[q];exact List.mem_map_of_mem h)
   rw[List.find?_cons,this];exact find_born hn.2 h
theorem ZZ(he:∀x v,aG t x=some v->VR ρ v (ev x))(fi:bC s)(r:Rel B ρ s.h w)(h:A6 y YR t s= .ok x s1)(ho:o.op= .entry y):gg P B ρ s s1 w x<|execOp ev o:=by
 unfold A6 at h;obtain⟨a,h1,h2⟩:=bw h;have ha:=he y a h1;unfold CR at h2;split at h2
 ·rename_i n;obtain⟨ob,s2,h3,h4⟩:=M.aN h2;obtain⟨hx,hg,hh,ct⟩:=fX h3;have ht:n<top:=Nat.lt_of_lt_of_le hx fi.nx;split at h4
  ·rename_i m es ex left k v;obtain⟨rfl,rfl⟩:=bB h4;obtain⟨_,_,b,N,bm,M,l,bq,seen,c1,c2,c3,c4,c5,_,_,_,c9⟩:=r.iter n m es ex left _ ht hg;obtain⟨e,d1,d2,d3,d4⟩:=c9;simp only[VR] at ha;obtain⟨b',N',q1,q2⟩:=ha;rw[c1] at q1;cases q1;refine⟨ρ,w,.value<|.tuple #[e.key,e.val],by rw[ct];exact Ext.refl _ _ _,?_,?_,by rw[hh];exact r,cx.refl _ _⟩
   ·have hf:l.find? (·.born == e.born)=some e:=by rw[←Array.find?_toList];exact find_born c5.1 d1
    simp only[execOp,ho,q2,Instr.entry,Sem.run_bind,Zw c3,Result.andThen_ok,d2,MapKept.run_getObj_map c4,bne_self_eq_false,Bool.false_eq_true,if_false,hf,Sem.run_pure]
   ·simp only[VR,ay];exact⟨_,rfl,_,_,rfl,d3,_,_,rfl,d4,rfl⟩
  ·cases h4
 ·cases h2
theorem Zk(he:∀x v,aG t x=some v->VR ρ v (ev x))(fi:bC s)(r:Rel B ρ s.h w)(h:CE y YR t s= .ok x s1)(ho:o.op= .next y true):gg P B ρ s s1 w x<|execOp ev o:=by have h':(R.bad:R AV)= .ok x s1:=h;cases h'
end
end Go.Rn
namespace Go.Rn
open Go.RowKit
variable {y:Operand} {ts:Array TypeId} {args:Array Operand}
def aeG(P:Program)(l:Nat)(f:FuncId)(tmps:Array Value)(assign body:Code)(w:World)(R:Value->World->Prop):Prop:=∀(c:Frame) (cs:List Frame),∃v w',R v w'/\Steps P (lone (Frame.round l f tmps assign body .normal) (c::cs) w) (lone (c.finish v) cs w')
def jk(P:Program)(r:Result Next)(R:Value->World->Prop):Prop:=
 match r with
 | .ok (.value v) w=>R v w
 | .ok .skip w=>R undef w
 | .ok (.enter f args) w=>Calls P f args w fun e w'=>∃v,e= .returned v/\R v w'
 | .ok (.round l f tmps assign body) w=>aeG P l f tmps assign body w R
 |_=>False
def km(B:aI)(ρ:Ren)(s s1:AS)(w:World)(x:AV):Value->World->Prop:=fun v w'=>∃σ,Ext s.nx s1.nx ρ σ/\VR σ x v/\Rel B σ s1.h w'/\cx B w w'
structure fT (P:Program) (B:aI) (YR:aJ):Prop where
 fn:∀(f:FuncId) (args:List AV) (x:AV) (s s1:AS) (ρ:Ren) (w:World) (vs:Array Value),bC s->Rel B ρ s.h w->gD ρ->dB s.nx s1.nx ρ->YR (.fn f) args s= .ok x s1->ay ρ args vs.toList->
  jk P ((callFunc f vs).run P w) (km B ρ s s1 w x)
 round:∀(l b N:Nat) (args:List AV) (x:AV) (s s1:AS) (ρ:Ren) (w:World) (vs:Array Value),bC s->Rel B ρ s.h w->gD ρ->dB s.nx s1.nx ρ->YR (.round l) args s= .ok x s1->ay ρ args vs.toList->
  ρ l=some (b,N)->jk P ((Instr.yield b vs).run P w) (km B ρ s s1 w x)
 row:A7 B YR
section
variable {P:Program} {B:aI} {ρ:Ren} {w:World} {s s1:AS} {x:AV} {YR:aJ} {t:Tr AV} {ev:Operand->Value} {o:Oper}
theorem gg.back{c:Sem Next}(h:gg P B ρ s s1 w x c):jk P (c.run P w)<|km B ρ s s1 w x:=by
 obtain⟨σ,w',nv,a,b,d,e,f⟩:=h;rw[b];cases nv<;>first|(cases d;done)|skip
 ·exact⟨σ,a,d,e,f⟩
 ·exact⟨σ,a,by rw[d];exact VR.undef σ,e,f⟩
theorem VR.TA{f:Fn}{a c:List AV}{v:Value}(h:VR ρ (.func f a c) v):Ur f=true/\∃p q,v= .func f p q/\ay ρ a p.toList/\ay ρ c q.toList:=by simpa only[VR] using h
theorem aaF(hc:fT P B YR)(he:∀x v,aG t x=some v->VR ρ v (ev x))(hg:gD ρ)(fi:bC s)(r:Rel B ρ s.h w)(hf:dB s.nx s1.nx ρ)(h:tB y args.toList YR t s= .ok x s1)(ho:o.op= .call ⟨.value y,args,ts⟩):jk P ((execOp ev o).run P w)<|km B ρ s s1 w x:=by
 unfold tB at h;obtain⟨l,h1,h2⟩:=bw h;obtain⟨f,h3,h4⟩:=bw h2;have hl:=Fi he h1;have yn:=he y f h3;unfold mX at h4;split at h4
 ·rename_i g first captured
  obtain⟨_,p,q,e,hp,hq⟩:=yn.TA;have O6:ay ρ (first++l++captured) (p++args.map ev++q).toList:=by rw[Array.toList_append,Array.toList_append];exact(hp.append<|by simpa using hl).append hq
  have:=hc.fn g _ x s s1 ρ w _ fi r hg hf h4 O6;simp only[execOp,ho,resolve,Deferred.ofValue,e,Sem.run_bind,Sem.run_pure,Result.andThen_ok,invoke];exact this
 ·rename_i n;have ks:=yn;simp only[VR] at ks;obtain⟨b,N,hn,e⟩:=ks;have:=hc.round n b N _ x s s1 ρ w (args.map ev) fi r hg hf h4 (by simpa using hl) hn;simp only[execOp,ho,resolve,Deferred.ofValue,e,Sem.run_bind,Sem.run_pure,Result.andThen_ok,invoke];simpa using this
 ·cases h4
theorem Zy{name:String}(hc:fT P B YR)(he:∀x v,aG t x=some v->VR ρ v (ev x))(hg:gD ρ)(fi:bC s)(r:Rel B ρ s.h w)(hf:dB s.nx s1.nx ρ)(h:NI P y name args.toList YR t s= .ok x s1)(ho:o.op= .call ⟨.invoke y name,args,ts⟩):jk P ((execOp ev o).run P w)<|km B ρ s s1 w x:=by have h':(R.bad:R AV)= .ok x s1:=h;cases h'
end
end Go.Rn
namespace Go.Rn
open Go.RowKit
section
variable {P:Program} {B:aI} {ρ:Ren} {w:World} {s s1:AS} {x:AV} {YR:aJ} {t:Tr AV} {o:Oper}
theorem aeH{a:Act}{nt:Nat}(hc:fT P B YR)(hl:∀t a,YQ<|YR t a)(ht:TR ρ nt t a.tmps)(hg:gD ρ)(fi:bC s)(r:Rel B ρ s.h w)(hf:dB s.nx s1.nx ρ)(h:(dI P o.op).val YR t s= .ok x s1):
 (∀c,o.op≠ .defer c)/\jk P ((execOp a.eval o).run P w) (km B ρ s s1 w x):=by
 have he:∀x v,aG t x=some v->VR ρ v (a.eval x):=fun x v=>CS ht hg;cases eX:o.op
 all_goals rw[eX] at h
 case move y=>exact⟨by simp,(SK (YR:=YR) he r h<|.inl eX).back⟩
 case assign y=>exact⟨by simp,(SK (YR:=YR) he r h<|.inr eX).back⟩
 case pick c p q=>exact⟨by simp,(aaz (YR:=YR) he r h eX).back⟩
 case alloc e=>exact⟨by simp,(ZK (YR:=YR) (t:=t) r hf h eX).back⟩
 case box e y=>exact⟨by simp,(abI (YR:=YR) he r hf h eX).back⟩
 case build ty parts=>exact⟨by simp,(ZN (YR:=YR) he r h eX).back⟩
 case buildSlice ty len parts=>exact⟨by simp,(YS (YR:=YR) he r hf h eX).back⟩
 case load ty y=>exact⟨by simp,(aaA (YR:=YR) hc.row he fi r h eX).back⟩
 case store ty y z=>exact⟨by simp,(ZL (YR:=YR) he fi r h eX).back⟩
 case nilCheck y=>exact⟨by simp,(Y1 (YR:=YR) he r h eX).back⟩
 case binOp op ty y z u=>exact⟨by simp,(abJ (YR:=YR) he r h eX).back⟩
 case unOp op ty y=>exact⟨by simp,(ac0 (YR:=YR) he r h eX).back⟩
 case convert src dst y=>exact⟨by simp,(Zd (YR:=YR) he fi r h eX).back⟩
 case makeInterface ty y=>exact⟨by simp,(acU (YR:=YR) he r h eX).back⟩
 case makeFunc fn first captured=>exact⟨by simp,(Y2 (YR:=YR) he r h eX).back⟩
 case makeMap ty y=>exact⟨by simp,(Ze (YR:=YR) he r hf h eX).back⟩
 case makeSlice ty l c=>exact⟨by simp,(YX (YR:=YR) he r hf h eX).back⟩
 case slice ty y lo hi mx=>exact⟨by simp,(ZS (YR:=YR) he r h eX).back⟩
 case fieldAddr ty y f=>exact⟨by simp,(YV (YR:=YR) he r h eX).back⟩
 case field ty y f=>exact⟨by simp,(ZQ (YR:=YR) he r h eX).back⟩
 case indexAddr ty y z=>exact⟨by simp,(YW (YR:=YR) he r h eX).back⟩
 case index ty y z=>exact⟨by simp,(ZR (YR:=YR) he r h eX).back⟩
 case lookup ty y z ok=>exact⟨by simp,(Zv (YR:=YR) he fi r h eX).back⟩
 case mapUpdate ty m k y=>exact⟨by simp,(RY (YR:=YR) he fi r h<|.inl eX).back⟩
 case insert ty m k y=>exact⟨by simp,(RY (YR:=YR) he fi r h<|.inr eX).back⟩
 case typeAssert y xt asserted ok=>exact⟨by simp,(Zr (YR:=YR) he r h eX).back⟩
 case range ty y=>exact⟨by simp,(ZY (YR:=YR) he fi r hf h eX).back⟩
 case entry y=>exact⟨by simp,(ZZ (YR:=YR) he fi r h eX).back⟩
 case next y Qn=>
  cases Qn with
  |true=>exact⟨by simp,(Zk (YR:=YR) he fi r h eX).back⟩
  |false=>exact absurd (show(fail:M AV) s= .ok x s1 from h) (by intro e;cases e)
 case extract y i=>exact⟨by simp,(Zf (YR:=YR) he r h eX).back⟩
 case call c=>
  obtain⟨callee,args,ts⟩:=c;cases callee with
  |builtin b=>exact⟨by simp,(Zi (YR:=YR) hc.row hl he fi r hf h eX).back⟩
  |value f=>exact⟨by simp,aaF hc he hg fi r hf h eX⟩
  |invoke recv name=>exact⟨by simp,Zy hc he hg fi r hf h eX⟩
 all_goals (exact absurd (show(fail:M AV) s= .ok x s1 from h) (by intro e;cases e))
end
end Go.Rn
namespace Go.Rn
open Go.RowKit
variable {nt i:Nat} {a:Act} {ops:Array Oper} {t1:Tr AV} {dst:Option Tmp}
section
variable {P:Program} {B:aI} {ρ:Ren} {w:World} {s s1:AS} {x:AV} {YR:aJ} {t:Tr AV} {o:Oper}
theorem SQ{f:AV}{args:List AV}{vf:Value}{vs:Array Value}(hc:fT P B YR)(hg:gD ρ)(fi:bC s)(r:Rel B ρ s.h w)(hf:dB s.nx s1.nx ρ)(yn:VR ρ f vf)(hl:ay ρ args vs.toList)(h4:mX YR f args s= .ok x s1):jk P ((do let d ←Deferred.ofValue vf vs;invoke d.target d.args:Sem Next).run P w)<|km B ρ s s1 w x:=by
 unfold mX at h4;split at h4
 ·rename_i g first captured
  obtain⟨_,p,q,e,hp,hq⟩:=yn.TA;have O6:ay ρ (first++args++captured) (p++vs++q).toList:=by rw[Array.toList_append,Array.toList_append];exact(hp.append hl).append hq
  have:=hc.fn g _ x s s1 ρ w _ fi r hg hf h4 O6;simp only[Deferred.ofValue,e,Sem.run_bind,Sem.run_pure,Result.andThen_ok,invoke];exact this
 ·rename_i n;have ks:=yn;simp only[VR] at ks;obtain⟨b,N,hn,e⟩:=ks;have:=hc.round n b N _ x s s1 ρ w vs fi r hg hf h4 hl hn;simp only[Deferred.ofValue,e,Sem.run_bind,Sem.run_pure,Result.andThen_ok,invoke];simpa using this
 ·cases h4
theorem Sd{R:Value->World->Prop}(ho:ops[i]? =some o)(hw:Region.wanted o (yielded ops a.tmps)=true)(hd:∀c,o.op≠ .defer c)(h:jk P ((execOp a.eval o).run P w) R)(b:Frame)(k:List Item)(cs:List Frame)(rest:List Nat):
 ∃v w',R v w'/\Steps P (lone (b.atR a<|.inRegion ops (i::rest)::k) cs w) (lone (b.atR (a.put o.dst v)<|.inRegion ops rest::k) cs w'):=by
 have hg:=stepGR_op (P:=P) (b:=b) (k:=k) (cs:=cs) (w:=w) (rest:=rest) ho hw;rw[Oper.semAt_eq _ _ _ hd] at hg;have pK:∀v,(b.atR a<|.inRegion ops (i::rest)::k).finish v=b.atR (a.put o.dst v) (.inRegion ops rest::k):=by intro v;rw[Frame.finish_atR,ho];rfl
 generalize hr:(execOp a.eval o).run P w=res at h;unfold jk at h;split at h
 ·rename_i v w';refine⟨v,w',h,.one<|step_lone_go ?_⟩;rw[hg, ←pK];simp[stepG.apply,hr]
 ·rename_i w';refine⟨undef,w',h,.one<|step_lone_go ?_⟩;rw[hg, ←pK];simp[stepG.apply,hr]
 ·rename_i f args w';obtain⟨e,nk,fr,⟨v,rfl,hR⟩,A8,cm,Oj⟩:=h<|b.atR a (.inRegion ops (i::rest)::k)::cs;have A9:step P (lone (b.atR a<|.inRegion ops (i::rest)::k) cs w)= .next (lone (Frame.enter P f args .normal) (b.atR a (.inRegion ops (i::rest)::k)::cs) w'):=step_lone_go (by rw[hg];simp[stepG.apply,hr,Frame.atR])
  refine⟨v,nk,hR,.head A9<|Steps.trans A8<|.one ?_⟩;rw[←pK];exact step_leave_returned Oj
 ·rename_i l f tmps assign body w';obtain⟨v,nk,hR,A8⟩:=h (b.atR a<|.inRegion ops (i::rest)::k) cs;have A9:step P (lone (b.atR a<|.inRegion ops (i::rest)::k) cs w)= .next (lone (Frame.round l f tmps assign body .normal) (b.atR a (.inRegion ops (i::rest)::k)::cs) w'):=step_lone_go (by rw[hg];simp[stepG.apply,hr,Frame.atR])
  refine⟨v,nk,hR,.head A9 ?_⟩;rw[←pK];exact A8
 ·cases h
theorem Zz(ht:TR ρ nt t a.tmps)(j:Nat)(hk:sY ops t j=true):yielded ops a.tmps j=Fh ops t j:=by
 unfold sY at hk;unfold yielded Fh;cases e1:ops[j]? with
 |none=>rfl
 |some q=>
  rw[e1] at hk;simp only[Option.bind_some];simp only at hk;cases e2:q.dst with
  |none=>rfl
  |some d=>
   rw[e2] at hk;simp only[Option.bind_some];simp only at hk;cases e4:t.get d with
   |none=>rw[e4] at hk;cases hk
   |some y=>
    have hv:=ht.2 d y e4;rw[Array.getD_eq_getD_getElem?] at hv;cases e3:a.tmps[d]? with
    |none=>rw[e3] at hv;cases y<;>first|rfl|(exfalso;simp only[Option.getD_none,VR,Go.undef] at hv;cases hv)
    |some v=>
     rw[e3] at hv;simp only[Option.getD_some] at hv;cases v with
     |bool c=>rw[Uw hv]
     |_=>cases y<;>first|rfl|(exfalso;simp only[VR] at hv;cases hv)
theorem ZA{g:Nat×Bool}(ht:TR ρ nt t a.tmps)(hg:o.guard=some g)(hk:sY ops t g.1=true):Region.wanted o (yielded ops a.tmps)=qe ops g t:=by
 unfold Region.wanted qe;rw[hg];simp only[Zz ht g.1 hk];cases Fh ops t g.1 with
 |none=>rfl
 |some b=>cases b<;>cases g.2<;>rfl
theorem CF{v:AV}(h:ji nt t dst v=some t1):(dst=none/\t1=t)\/∃d,dst=some d/\d<nt/\t1=t.put d (some v):=by
 cases dst with
 |none=>injection h with h;exact .inl ⟨rfl,h.symm⟩
 |some d=>
  have h': @Bool.rec (fun _=>Option<|Tr AV) none (some<|t.put d<|some v) (Nat.blt d nt)=some t1:=h;rw[yS] at h';by_cases q:d<nt
  ·rw[if_pos q] at h';injection h' with h';exact .inr ⟨d,rfl,q,h'.symm⟩
  ·rw[if_neg q] at h';cases h'
theorem CG{y:AV}{v:Value}(ht:TR ρ nt t a.tmps)(iX:nt<=top)(h:ji nt t dst y=some t1)(hv:VR ρ y v):TR ρ nt t1 (a.put dst v).tmps/\(a.put dst v).defers=a.defers:=by
 rcases CF h with⟨rfl,rfl⟩|⟨d,rfl,hd,rfl⟩
 ·exact⟨ht,rfl⟩
 ·exact⟨ht.set hd iX hv,rfl⟩
structure At (B:aI) (ρ:Ren) (s:AS) (nt:Nat) (t:Tr AV) (w:World) (a:Act):Prop where
 tr:TR ρ nt t a.tmps
 rel:Rel B ρ s.h w
 g:gD ρ
 nt:nt<=top
 cn:bC s
def DN(P:Program)(B:aI)(ρ:Ren)(s s1:AS)(nt:Nat)(t1:Tr AV)(w:World)(a:Act)(m:Machine)(m':Act->World->Machine):Prop:=∃σ a' w',Ext s.nx s1.nx ρ σ/\At B σ s1 nt t1 w' a'/\a'.defers=a.defers/\cx B w w'/\Steps P m (m' a' w')
theorem TB(hc:fT P B YR)(hl:∀t a,YQ<|YR t a)(ho:ops[i]? =some o)(ax:At B ρ s nt t w a)(hf:dB s.nx s1.nx ρ)(h:gO P YR nt ops o t s= .ok t1 s1)(b:Frame)(k:List Item)(cs:List Frame)(rest:List Nat):
 DN P B ρ s s1 nt t1 w a (lone (b.atR a<|.inRegion ops (i::rest)::k) cs w) (fun a' w'=>lone (b.atR a'<|.inRegion ops rest::k) cs w'):=by
 have main:∀(f:(dI P o.op).val YR t s=(dI P o.op).val YR t s),Region.wanted o (yielded ops a.tmps)=true->rS (dI P o.op) o.dst YR nt t s= .ok t1 s1->
  DN P B ρ s s1 nt t1 w a (lone (b.atR a<|.inRegion ops (i::rest)::k) cs w) (fun a' w'=>lone (b.atR a'<|.inRegion ops rest::k) cs w'):=by
  intro _ hw hk;unfold rS at hk;obtain⟨v,s2,h1,h2⟩:=M.aN hk;obtain⟨h3,rfl⟩:=gS h2;obtain⟨hd,hb⟩:=aeH hc hl ax.tr ax.g ax.cn ax.rel hf h1;obtain⟨u,w',⟨σ,e1,e2,e3,e4⟩,st⟩:=Sd ho hw hd hb b k cs rest;obtain⟨q1,q2⟩:=CG (ax.tr.mono e1.le) ax.nt h3 e2;exact⟨σ,a.put o.dst u,w',e1,⟨q1,e3,ax.g.mono e1.le,ax.nt,(YQ.GO P hl t o.op).cn ax.cn h1⟩,q2,e4,st⟩
 unfold gO Bl at h;cases hg:o.guard with
 |none=>rw[hg] at h;exact main rfl (by unfold Region.wanted;rw[hg]) h
 |some g=>
  rw[hg] at h;have h':tC ops g (dI P o.op) o.dst YR nt t s= .ok t1 s1:=h;unfold tC at h';obtain⟨hk,h'⟩:=cX h';have hw:=ZA (ops:=ops) ax.tr hg hk;cases q:qe ops g t with
  |true=>rw[q] at h' hw;exact main rfl hw h'
  |false=>rw[q] at h' hw;obtain⟨h3,rfl⟩:=gS (show lift (ji nt t o.dst qf) s= .ok t1 s1 from h');obtain⟨q1,q2⟩:=CG ax.tr ax.nt h3<|VR.undef ρ;have hs:=stepR_op_skip (P:=P) (b:=b) (a:=a) (k:=k) (cs:=cs) (w:=w) (ops:=ops) (i:=i) (rest:=rest) (by simp[ho];simpa using hw);simp only[ho,Option.bind_some] at hs;exact⟨ρ,a.put o.dst undef,w,Ext.refl _ _ _,⟨q1,ax.rel,ax.g,ax.nt,ax.cn⟩,q2,cx.refl _ _,.one hs⟩
theorem M8{ops:Array Oper}{nt:Nat}(hc:fT P B YR)(hl:∀t a,YQ<|YR t a)(b:Frame)(k:List Item)(cs:List Frame):∀(n i:Nat) (l:List Oper) {t t1:Tr AV} {s s1:AS} {ρ:Ren} {a:Act} {w:World},l.length=n->ops.toList.drop i=l->
 At B ρ s nt t w a->dB s.nx s1.nx ρ->jj P YR nt ops l t s= .ok t1 s1->
 DN P B ρ s s1 nt t1 w a (lone (b.atR a<|.inRegion ops (List.range' i n)::k) cs w) (fun a' w'=>lone (b.atR a' k) cs w')
 |0,i,l,t,t1,s,s1,ρ,a,w,hn,_,ax,_,h=>by have:l=[]:=List.eq_nil_of_length_eq_zero hn;subst this;obtain⟨rfl,rfl⟩:=bB (show M.pure t s= .ok t1 s1 from h);exact⟨ρ,a,w,Ext.refl _ _ _,ax,rfl,cx.refl _ _,.one stepR_region_end⟩
 |n+1,i,l,t,t1,s,s1,ρ,a,w,hn,lf,ax,hf,h=>by
  cases l with
  |nil=>cases hn
  |cons o l=>
   obtain⟨t2,s2,h1,h2⟩:=M.aN (show((gO P YR nt ops o t).bind<|jj P YR nt ops l) s= .ok t1 s1 from h);have ho:ops[i]? =some o:=by
    have:(ops.toList.drop i)[0]? =some o:=by rw[lf];rfl
    rw[List.getElem?_drop] at this;simpa using this
   have af4:ops.toList.drop (i+1)=l:=by rw[←List.drop_drop,lf];rfl
   have lh:s.nx<=s2.nx:=(YQ.gO P hl nt ops o t).le ax.cn h1;have dz:bC s2:=(YQ.gO P hl nt ops o t).cn ax.cn h1;have pS:s2.nx<=s1.nx:=(YQ.jj P hl nt ops l t2).le dz h2;obtain⟨σ,a',w',e1,e2,e3,e4,e5⟩:=TB hc hl ho ax (hf.sub (Nat.le_refl _) pS) h1 b k cs<|List.range' (i+1) n;obtain⟨τ,GY,nk,f1,f2,f3,f4,f5⟩:=M8 hc hl b k cs n (i+1) l (by simpa using hn) af4 e2 (hf.next lh e1) h2;exact⟨τ,GY,nk,e1.trans lh pS f1,f2,f3.trans e3,e4.trans f4,by rw[List.range'_succ];exact Steps.trans e5 f5⟩
theorem Z0{id:Nat}(hc:fT P B YR)(hl:∀t a,YQ<|YR t a)(ax:At B ρ s nt t w a)(hf:dB s.nx s1.nx ρ)(h:jj P YR nt ops ops.toList t s= .ok t1 s1)(b:Frame)(k:List Item)(cs:List Frame):
 DN P B ρ s s1 nt t1 w a (lone (b.atR a<|.code (.region id ops false)::k) cs w) (fun a' w'=>lone (b.atR a' k) cs w'):=by
 obtain⟨σ,a',w',e1,e2,e3,e4,e5⟩:=M8 hc hl b k cs ops.size 0 ops.toList jI jI ax hf h;exact⟨σ,a',w',e1,e2,e3,e4,.head stepR_region (by rw[List.range_eq_range'];exact e5)⟩
end
end Go.Rn
namespace Go.Rn
open Go.RowKit
variable {listed:Array Bool} {i:Nat}
def oj(acc:Array Nat)(o:Oper):Nat:=o.after.foldl (fun s e=>if Region.binds .any e then s|||2 ^ e.on|||acc.getD e.on 0 else s) 0
theorem RI(acc:Array Nat)(o:Oper)(i:Nat):(oj acc o).testBit i=true↔∃e∈o.after.toList,Region.binds .any e=true/\(e.on=i\/(acc.getD e.on 0).testBit i=true):=by
 unfold oj;rw[←Array.foldl_toList];have:∀(l:List Edge) (s:Nat),(l.foldl (fun s e=>if Region.binds .any e then s|||2 ^ e.on|||acc.getD e.on 0 else s) s).testBit i=true↔
  s.testBit i=true\/∃e∈l,Region.binds .any e=true/\(e.on=i\/(acc.getD e.on 0).testBit i=true):=by
  intro l;induction l with
  |nil=>intro s;simp
  |cons e l ih=>
   intro s;rw[List.foldl_cons,ih];by_cases q:Region.binds .any e=true
   ·rw[if_pos q];simp only[Nat.testBit_or,Bool.or_eq_true,Nat.testBit_two_pow,decide_eq_true_eq,List.mem_cons,exists_eq_or_imp,q,true_and];constructor
    ·rintro ((h|h)|h)
     ·rcases h with h|h
      ·exact .inl h
      ·exact .inr<|.inl<|.inl h
     ·exact .inr<|.inl<|.inr h
     ·exact .inr<|.inr h
    ·rintro (h|(h|h)|h)
     ·exact .inl<|.inl<|.inl h
     ·exact .inl<|.inl<|.inr h
     ·exact .inl<|.inr h
     ·exact .inr h
   ·rw[if_neg q];simp only[List.mem_cons,exists_eq_or_imp,q,false_and,false_or,Bool.false_eq_true]
 have h:=this o.after.toList 0;simpa using h
theorem LY(l:List Oper):∀(acc:Array Nat),(l.foldl (fun acc o=>acc.push<|oj acc o) acc).size=acc.size+l.length/\
 (∀k,k<acc.size->(l.foldl (fun acc o=>acc.push<|oj acc o) acc).getD k 0=acc.getD k 0):=by
 induction l with
 |nil=>intro acc;exact⟨by simp,fun k _=>rfl⟩
 |cons o l ih=>intro acc;rw[List.foldl_cons];obtain⟨h1,h2⟩:=ih<|acc.push<|oj acc o;refine⟨by rw[h1];simp;omega,fun k hk=>?_⟩;rw[h2 k vY];simp only[Array.getD_eq_getD_getElem?,Array.getElem?_push];rw[if_neg aj]
theorem SR{ops:Array Oper}{j:Nat}{o:Oper}(ho:ops[j]? =some o):
 (Region.before ops).getD j 0=oj ((ops.toList.take j).foldl (fun acc o=>acc.push<|oj acc o) #[]) o/\
 ∀k,k<j->((ops.toList.take j).foldl (fun acc o=>acc.push<|oj acc o) #[]).getD k 0=(Region.before ops).getD k 0:=by
 have hb:Region.before ops=ops.toList.foldl (fun acc o=>acc.push<|oj acc o) #[]:=by unfold Region.before;rw[←Array.foldl_toList];rfl
 have hj:j<ops.toList.length:=by have:=(Array.getElem?_eq_some_iff.1 ho).1;simpa using this
 have kJ:ops.toList[j]? =some o:=by simpa using ho
 have aeI:ops.toList=ops.toList.take j++o::ops.toList.drop (j+1):=by
  have e:ops.toList.drop j=o::ops.toList.drop (j+1):=by rw[List.drop_eq_getElem_cons hj];congr 1;rw[List.getElem?_eq_getElem hj] at kJ;injection kJ
  rw[←e,List.take_append_drop]
 obtain⟨s1,_⟩:=LY (ops.toList.take j) #[];have ku:((ops.toList.take j).foldl (fun acc o=>acc.push<|oj acc o) #[]).size=j:=by rw[s1,List.length_take,Nat.min_eq_left aj];exact Nat.zero_add j
 generalize hA:(ops.toList.take j).foldl (fun acc o=>acc.push<|oj acc o) #[]=A at*;have yo:Region.before ops=(ops.toList.drop<|j+1).foldl (fun acc o=>acc.push<|oj acc o) (A.push<|oj A o):=by
  rw[hb]
  conv=>lhs;rw[aeI]
  rw[List.foldl_append,hA,List.foldl_cons]
 obtain⟨_,q2⟩:=LY (ops.toList.drop<|j+1)<|A.push<|oj A o;refine⟨?_,fun k hk=>?_⟩
 ·rw[yo,q2 j vY];rw[Array.getD_eq_getD_getElem?,Array.getElem?_push,if_pos ku.symm];rfl
 ·rw[yo,q2 k vY];simp only[Array.getD_eq_getD_getElem?,Array.getElem?_push];rw[if_neg aj]
theorem RZ(ops:Array Oper):(Region.before ops).size=ops.size:=by
 have hb:Region.before ops=ops.toList.foldl (fun acc o=>acc.push<|oj acc o) #[]:=by unfold Region.before;rw[←Array.foldl_toList];rfl
 rw[hb,(LY ops.toList #[]).1];simp
theorem Y8{ops:Array Oper}(he:ID ops)(D:Nat->Prop)(hD:∀(j:Nat) (o:Oper) (e:Edge),ops[j]? =some o->D j->e∈o.after->Region.binds .any e=true->D e.on):
 ∀(n j i:Nat),j<=n->((Region.before ops).getD j 0).testBit i=true->i<j/\(D j->D i)/\((∀(o:Oper) (e:Edge),ops[j]? =some o->e∈o.after->Region.binds .any e=true->D e.on)->D i):=by
 intro n;induction n with
 |zero=>
  intro j i hj h;have:j=0:=by omega
  subst this;cases ho:ops[0]? with
  |none=>
   have:¬0<(Region.before ops).size:=by rw[RZ];intro q;rw[Array.getElem?_eq_getElem q] at ho;cases ho
   rw[Array.getD_eq_getD_getElem?,Array.getElem?_eq_none aj] at h;simp at h
  |some o=>obtain⟨h1,_⟩:=SR ho;rw[h1,RI] at h;obtain⟨e,hm,BX,_⟩:=h;exact absurd (he 0 o e ho (Array.mem_toList_iff.1 hm) BX)<|Nat.not_lt_zero _
 |succ n ih=>
  intro j i hj h;by_cases q:j<=n
  ·exact ih j i q h
  ·have:j=n+1:=by omega
   subst this;cases ho:ops[n+1]? with
   |none=>
    have:¬n+1<(Region.before ops).size:=by rw[RZ];intro q;rw[Array.getElem?_eq_getElem q] at ho;cases ho
    rw[Array.getD_eq_getD_getElem?,Array.getElem?_eq_none aj] at h;simp at h
   |some o=>
    obtain⟨h1,h2⟩:=SR ho;rw[h1,RI] at h;obtain⟨e,hm,BX,cS⟩:=h;have fc:=Array.mem_toList_iff.1 hm;have cf:=he (n+1) o e ho fc BX;rcases cS with rfl|cS
    ·exact⟨cf,fun Qo=>hD _ o e ho Qo fc BX,fun dL=>dL o e rfl fc BX⟩
    ·rw[h2 e.on cf] at cS;obtain⟨a,b,_⟩:=ih e.on i aj cS;exact⟨by omega,fun Qo=>b<|hD _ o e ho Qo fc BX,fun dL=>b<|dL o e rfl fc BX⟩
def open_(listed:Array Bool):Nat:=(List.range listed.size).countP fun i=> !listed.getD i true
theorem aaG{n:Nat}{p q:Nat->Bool}(hi:i<n)(hp:p i=true)(hq:q i=false)(ch:∀k,k≠i->q k=p k):(List.range n).countP q<(List.range n).countP p:=by
 induction n with
 |zero=>omega
 |succ n ih=>
  rw[List.range_succ,List.countP_append,List.countP_append];by_cases e:i=n
  ·subst e;have:(List.range i).countP q=(List.range i).countP p:=by
    apply List.countP_congr;intro k hk;have:k≠i:=by have:=List.mem_range.1 hk;omega
    rw[ch k this]
   rw[this];simp[hp,hq]
  ·have:=ih aj;have e2:(List.countP q [n])=List.countP p [n]:=by simp[List.countP_cons,ch n<|Ne.symm e]
   rw[e2];omega
theorem abP(hi:listed.getD i true=false):open_ (listed.setIfInBounds i true)<open_ listed:=by
 have cf:i<listed.size:=by
  rcases Nat.lt_or_ge i listed.size with q|q
  ·exact q
  ·rw[Array.getD_eq_getD_getElem?,Array.getElem?_eq_none q] at hi;cases hi
 unfold open_;rw[Array.size_setIfInBounds];refine aaG cf (by simp[hi]) ?_ fun k hk=>?_
 ·simp[Array.getD_eq_getD_getElem?,Array.getElem?_setIfInBounds_self_of_lt cf]
 ·simp only[Array.getD_eq_getD_getElem?];rw[Array.getElem?_setIfInBounds_ne aj]
theorem aaH(h:open_ listed=0):∀i,i<listed.size->listed.getD i false=true:=by intro i hi;unfold open_ at h;rw[List.countP_eq_zero] at h;have:=h i<|List.mem_range.2 hi;rw[Array.getD_eq_getD_getElem?,Array.getElem?_eq_getElem hi] at this ⊢;simpa using this
theorem Z1{ops:Array Oper}(he:ID ops)(hs:listed.size=ops.size)(hr:Region.ready .any ops listed=[]):∀n i,i<n->i<ops.size->listed.getD i false=true:=by
 intro n;induction n with
 |zero=>intro i hi;omega
 |succ n ih=>
  intro i hi cf;by_cases q:i<n
  ·exact ih i q cf
  ·have:i=n:=by omega
   subst this;cases h:listed.getD i false with
   |true=>rfl
   |false=>
    exfalso;have qA:i∈Region.ready .any ops listed:=by
     unfold Region.ready;rw[List.mem_filter];refine⟨List.mem_range.2 cf,?_⟩;have h1:listed.getD i true=false:=by rw[Array.getD_eq_getD_getElem?,Array.getElem?_eq_getElem aj] at h ⊢;simpa using h
     rw[h1,Array.getElem?_eq_getElem cf];simp only[Bool.not_false,Bool.true_and,Option.map_some,Option.getD_some];rw[Array.all_eq_true_iff_forall_mem];intro e hm;cases hb:Region.binds .any e with
     |false=>rfl
     |true=>have ahH:=he i ops[i] e (Array.getElem?_eq_getElem cf) hm hb;simp only[Bool.not_true,Bool.false_or];exact ih e.on ahH aj
    rw[hr] at qA;cases qA
section
variable {P:Program} {ops:Array Oper}
theorem aaI(he:ID ops)(b:Frame)(k:List Item)(cs:List Frame)(Inv:Array Bool->Act->World->Prop)(af5:∀(listed:Array Bool) (a:Act) (w:World) (i:Nat) (o:Oper) (rest:List Nat),listed.size=ops.size->Inv listed a w->ops[i]? =some o->listed.getD i true=false->
 (∀e∈o.after,Region.binds .any e=true->listed.getD e.on false=true)->
 ∃a' w',Inv (listed.setIfInBounds i true) a' w'/\Steps P (lone (b.atR a<|.inRegion ops (i::rest)::k) cs w) (lone (b.atR a'<|.inRegion ops rest::k) cs w')):
 ∀(fuel t:Nat) (listed:Array Bool) (a:Act) (w:World),listed.size=ops.size->open_ listed<=fuel->Inv listed a w->∃AL a' w',AL.size=ops.size/\(∀i,i<ops.size->AL.getD i false=true)/\Inv AL a' w'/\Steps P (lone (b.atR a<|.inRegion ops (Region.linearise.go .any ops fuel t listed [])::k) cs w) (lone (b.atR a' k) cs w'):=by
 intro fuel;induction fuel with
 |zero=>
  intro t listed a w hs ho hi;refine⟨listed,a,w,hs,?_,hi,?_⟩
  ·intro i cf;exact aaH aj i aj
  ·simp only[Region.linearise.go,List.reverse_nil];exact .one stepR_region_end
 |succ fuel ih=>
  intro t listed a w hs ho hi;simp only[Region.linearise.go];change ∃AL a' w',AL.size=ops.size/\(∀i,i<ops.size->AL.getD i false=true)/\Inv AL a' w'/\
   Steps P (lone (b.atR a<|.inRegion ops (match (Region.ready .any ops listed)[t % (Region.ready .any ops listed).length]? with
    |some i=>Region.linearise.go .any ops fuel (t / (Region.ready .any ops listed).length) (listed.setIfInBounds i true) [i]
    |none=>[].reverse)::k) cs w) (lone (b.atR a' k) cs w')
  cases hq:(Region.ready .any ops listed)[t % (Region.ready .any ops listed).length]? with
  |none=>
   have Kd:Region.ready .any ops listed=[]:=by
    cases hr:Region.ready .any ops listed with
    |nil=>rfl
    |cons x xs=>rw[hr] at hq;have cf:t % (x::xs).length<(x::xs).length:=Nat.mod_lt _ jI;simp at hq;simp at cf;omega
   refine⟨listed,a,w,hs,fun i cf=>Z1 he hs Kd (i+1) i aj cf,hi,?_⟩;simp only[List.reverse_nil];exact .one stepR_region_end
  |some i=>
   simp only[];have qA:=List.mem_of_getElem? hq;unfold Region.ready at qA;rw[List.mem_filter,Bool.and_eq_true] at qA;obtain⟨cf,h1,h2⟩:=qA;have ahI:=List.mem_range.1 cf;have XI:ops[i]? =some ops[i]:=Array.getElem?_eq_getElem ahI;rw[XI] at h2;simp only[Option.map_some,Option.getD_some] at h2;rw[Array.all_eq_true_iff_forall_mem] at h2;have yj:listed.getD i true=false:=by simpa using h1
   rw[linearise_go_acc,List.reverse_singleton,List.singleton_append];obtain⟨a',w',j1,j2⟩:=af5 listed a w i ops[i] (Region.linearise.go .any ops fuel (t / (Region.ready .any ops listed).length) (listed.setIfInBounds i true) []) hs hi XI yj (fun e hm hb=>by have:=h2 e hm;rw[hb] at this;simpa using this);obtain⟨l',GY,nk,k0,k1,k2,k3⟩:=ih (t / (Region.ready .any ops listed).length) (listed.setIfInBounds i true) a' w' (by simp[hs]) (by have:=abP yj;omega) j1;exact⟨l',GY,nk,k0,k1,k2,Steps.trans j2 k3⟩
theorem abQ(n:Nat):open_ (Array.replicate n false)<=n:=by unfold open_;have:=List.countP_le_length (p:=fun i=> !(Array.replicate n false).getD i true) (l:=List.range (Array.replicate n false).size);simpa using this
end
end Go.Rn
namespace Go.Rn
open Go.RowKit
variable {g f:Operand->Option AV}
section
variable {P:Program} {YR:aJ} {t u:Tr AV}
theorem HI:∀{l:List Operand},(∀y∈l,f y=g y)->jU f l=jU g l
 |[],_=>rfl
 |y::l,h=>by simp only[jU,h y List.mem_cons_self,HI fun z hz=>h z<|List.mem_cons_of_mem _ hz]
theorem LZ:∀{l:List<|Nat×Operand},(∀y∈l,f y.2=g y.2)->vt f l=vt g l
 |[],_=>rfl
 |(i,y)::l,h=>by simp only[vt,h (i,y) List.mem_cons_self,LZ fun z hz=>h z<|List.mem_cons_of_mem _ hz]
theorem Mv{y:Option Operand}(h:∀z,y=some z->f z=g z):opt f y=opt g y:=by
 cases y with
 |none=>rfl
 |some z=>simp only[opt,h z rfl]
theorem aaJ{op:Op}(h:∀y∈op.operands,aG t y=aG u y):(dI P op).val YR t=(dI P op).val YR u:=by
 cases op
 case move y=>show vu y YR t=vu y YR u;simp only[vu,h y fV]
 case assign y=>show vu y YR t=vu y YR u;simp only[vu,h y fV]
 case pick c p q=>show Bk c p q YR t=Bk c p q YR u;simp only[Bk,h c fV,h p fV,h q fV]
 case alloc e=>rfl
 case box e y=>show Bs y YR t=Bs y YR u;simp only[Bs,h y fV]
 case build ty parts=>show A0 P ty parts.toList YR t=A0 P ty parts.toList YR u;simp only[A0,LZ (f:=aG t) (g:=aG u) (l:=parts.toList) fun y hy=>h y.2 (by simp only[Op.operands,List.mem_toArray];exact List.mem_map_of_mem hy)]
 case buildSlice ty len parts=>show An P ty len parts.toList YR t=An P ty len parts.toList YR u;simp only[An,LZ (f:=aG t) (g:=aG u) (l:=parts.toList) fun y hy=>h y.2 (by simp only[Op.operands,List.mem_toArray];exact List.mem_map_of_mem hy)]
 case load ty y=>show tA P ty y YR t=tA P ty y YR u;simp only[tA,h y fV]
 case store ty y z=>show xk P ty y z YR t=xk P ty y z YR u;simp only[xk,h y fV,h z fV]
 case nilCheck y=>show Aq y YR t=Aq y YR u;simp only[Aq,h y fV]
 case binOp op ty y z v=>show tM P op ty y z YR t=tM P op ty y z YR u;simp only[tM,h y fV,h z fV]
 case unOp op ty y=>show BQ op y YR t=BQ op y YR u;simp only[BQ,h y fV]
 case convert src dst y=>show Ay P src dst y YR t=Ay P src dst y YR u;simp only[Ay,h y fV]
 case makeInterface ty y=>show Cs P ty y YR t=Cs P ty y YR u;simp only[Cs,h y fV]
 case makeFunc fn first captured=>show Ar fn first.toList captured.toList YR t=Ar fn first.toList captured.toList YR u;simp only[Ar,HI (f:=aG t) (g:=aG u) (l:=first.toList) fun y hy=>h y (by simp only[Op.operands,Array.mem_append];exact .inl<|Array.mem_toList_iff.1 hy),HI (f:=aG t) (g:=aG u) (l:=captured.toList) fun y hy=>h y (by simp only[Op.operands,Array.mem_append];exact .inr<|Array.mem_toList_iff.1 hy)]
 case makeMap ty y=>
  cases y with
  |none=>rfl
  |some y=>show Az P ty (some y) YR t=Az P ty (some y) YR u;simp only[Az,h y fV]
 case makeSlice ty l c=>show Ao P ty l c YR t=Ao P ty l c YR u;simp only[Ao,h l fV,h c fV]
 case slice ty y lo hi mx=>show sX P ty y lo hi mx YR t=sX P ty y lo hi mx YR u;simp only[sX,h y fV,Mv (f:=aG t) (g:=aG u) (y:=lo) (fun z hz=>h z<|by simp[Op.operands,hz]),Mv (f:=aG t) (g:=aG u) (y:=hi) (fun z hz=>h z<|by simp[Op.operands,hz]),Mv (f:=aG t) (g:=aG u) (y:=mx) fun z hz=>h z<|by simp[Op.operands,hz]]
 case fieldAddr ty y f=>show Ap P ty y f YR t=Ap P ty y f YR u;simp only[Ap,h y fV]
 case field ty y f=>show A3 P ty y f YR t=A3 P ty y f YR u;simp only[A3,h y fV]
 case indexAddr ty y z=>show p9 P ty y z YR t=p9 P ty y z YR u;simp only[p9,h y fV,h z fV]
 case index ty y z=>show A4 P ty y z YR t=A4 P ty y z YR u;simp only[A4,h y fV,h z fV]
 case lookup ty y z ok=>show wX P ty y z ok YR t=wX P ty y z ok YR u;simp only[wX,h y fV,h z fV]
 case mapUpdate ty m k y=>show qd P ty m k y YR t=qd P ty m k y YR u;simp only[qd,h m fV,h k fV,h y fV]
 case insert ty m k y=>show qd P ty m k y YR t=qd P ty m k y YR u;simp only[qd,h m fV,h k fV,h y fV]
 case typeAssert y xt asserted ok=>show CQ P asserted ok y YR t=CQ P asserted ok y YR u;simp only[CQ,h y fV]
 case range ty y=>show A5 P ty y YR t=A5 P ty y YR u;simp only[A5,h y fV]
 case entry y=>show A6 y YR t=A6 y YR u;simp only[A6,h y fV]
 case next y Qn=>
  cases Qn with
  |true=>show CE y YR t=CE y YR u;simp only[CE,h y fV]
  |false=>rfl
 case extract y i=>show AA y i YR t=AA y i YR u;simp only[AA,h y fV]
 case call c=>
  obtain⟨callee,args,ts⟩:=c;have ha:∀(cl:Callee),(∀y∈(Op.call ⟨cl,args,ts⟩).operands,aG t y=aG u y)->jU (aG t) args.toList=jU (aG u) args.toList:=fun cl hh=>HI fun y hy=>hh y (by simp only[Op.operands,Call.operands,Array.mem_append];exact .inr<|Array.mem_toList_iff.1 hy);cases callee with
  |builtin b=>show oi P b ts args.toList YR t=oi P b ts args.toList YR u;simp only[oi,ha _ h]
  |value f=>show tB f args.toList YR t=tB f args.toList YR u;simp only[tB,ha _ h,h f<|by simp[Op.operands,Call.operands]]
  |invoke r name=>rfl
 all_goals rfl
theorem abR{y:Operand}(h:∀d,y= .tmp d->t.get d=u.get d):aG t y=aG u y:=by
 cases y with
 |tmp d=>show t.get d=u.get d;rw[h d rfl]
 |_=>rfl
theorem Se{nt:Nat}{ops:Array Oper}{o:Oper}(h:∀d∈o.looksAt ops,t.get d=u.get d){s s1:AS}{t1:Tr AV}(hr:gO P YR nt ops o t s= .ok t1 s1):
 ∃v,ji nt t o.dst v=some t1/\∀u1,ji nt u o.dst v=some u1->gO P YR nt ops o u s= .ok u1 s1:=by
 have eX:(dI P o.op).val YR t=(dI P o.op).val YR u:=aaJ fun y hy=>abR fun d hd=>h d (by unfold Oper.looksAt;refine List.mem_append_left _<|List.mem_filterMap.2 ⟨y,Array.mem_toList_iff.2 hy,by rw[hd]⟩);have main:rS (dI P o.op) o.dst YR nt t s= .ok t1 s1->∃v,ji nt t o.dst v=some t1/\∀u1,ji nt u o.dst v=some u1->rS (dI P o.op) o.dst YR nt u s= .ok u1 s1:=by intro hk;unfold rS at hk;obtain⟨v,s2,h1,h2⟩:=M.aN hk;obtain⟨h3,rfl⟩:=gS h2;refine⟨v,h3,fun u1 hu=>?_⟩;unfold rS;rw[←eX,M.bL h1];unfold lift;rw[hu]
 unfold gO Bl at hr ⊢;cases hg:o.guard with
 |none=>rw[hg] at hr;exact main hr
 |some g=>
  rw[hg] at hr;have kf:tC ops g (dI P o.op) o.dst YR nt t s= .ok t1 s1:=hr;have hw:qe ops g t=qe ops g u:=by
   unfold qe Fh;cases e1:ops[g.1]? with
   |none=>rfl
   |some q=>
    simp only;cases e2:q.dst with
    |none=>rfl
    |some d=>simp only;rw[h d (by unfold Oper.looksAt;refine List.mem_append_right _ ?_;rw[hg];simp[e1,e2])]
  have jt:sY ops t g.1=sY ops u g.1:=by
   unfold sY;cases e1:ops[g.1]? with
   |none=>rfl
   |some q=>
    simp only;cases e2:q.dst with
    |none=>rfl
    |some d=>simp only;rw[h d (by unfold Oper.looksAt;refine List.mem_append_right _ ?_;rw[hg];simp[e1,e2])]
  show ∃v,ji nt t o.dst v=some t1/\∀u1,ji nt u o.dst v=some u1->tC ops g (dI P o.op) o.dst YR nt u s= .ok u1 s1;unfold tC at kf ⊢;obtain⟨hk,kf⟩:=cX kf;rw[←hw, ←jt,hk,dA];cases q:qe ops g t with
  |true=>rw[q] at kf;exact main kf
  |false=>rw[q] at kf;obtain⟨h3,rfl⟩:=gS (show lift (ji nt t o.dst qf) s= .ok t1 s1 from kf);refine⟨qf,h3,fun u1 hu=>?_⟩;show lift (ji nt u o.dst qf) s1= .ok u1 s1;unfold lift;rw[hu]
end
end Go.Rn
namespace Go.Rn
open Go.RowKit
variable {b:Array Nat}
theorem Rel.congr{B:aI}{ρ:Ren}{h h':Tr ae}{w:World}(r:Rel B ρ h w)(e:∀m,m<top->h'.get m=h.get m):Rel B ρ h' w:=by
 refine⟨fun n o hn hg=>r.is n o hn (by rw[←e n hn];exact hg),fun n m o p b N M hn hm h1 h2 cS=>r.one n m o p b N M hn hm (by rw[←e n hn];exact h1) (by rw[←e m hm];exact h2) cS,fun n m es ex left cur hn h1=>?_,r.size,
  fun i j m es ex left cur gY iW iH iJ hi hj h1 h2=>r.lone i j m es ex left cur gY iW iH iJ hi hj (by rw[←e i hi];exact h1) (by rw[←e j hj];exact h2),
  r.fz.of (Ren.le_refl _) (fun _ _ _=>rfl) (fun b1 _ hn=>hn.sub fun m q hm hq gZ=>⟨q,by rw[←e m hm];exact hq,gZ⟩),
  r.tk.of (Ren.le_refl _) (fun n q hn hq _=>by rw[←e n hn];exact hq) (Nat.le_refl _) (fun _ _ _=>rfl) (fun b1 _ hn=>hn.sub fun m q hm hq gZ=>⟨q,by rw[←e m hm];exact hq,gZ⟩) (fun _ _ _ _ _ e=>e)⟩
 obtain⟨a,b,c⟩:=r.iter n m es ex left cur hn (by rw[←e n hn];exact h1);exact⟨a,by rw[e m a];exact b,c⟩
theorem Rv{x:Met}:∀{all:List Met},sC b x all=true->∀y∈all,x.i=y.i\/s8 x y=true\/loose b x.i y.i=false
 |[],_,y,hy=>by cases hy
 |z::l,h,y,hy=>by
  simp only[sC] at h;cases q:(Nat.beq x.i z.i||(s8 x z|| !loose b x.i z.i)) with
  |false=>rw[q] at h;cases h
  |true=>
   rw[q] at h;rcases List.mem_cons.1 hy with rfl|hy
   ·simp only[Bool.or_eq_true,Bool.not_eq_true'] at q;rcases q with q|q|q
    ·exact .inl<|eA.1 q
    ·exact .inr<|.inl q
    ·exact .inr<|.inr q
   ·exact Rv h y hy
theorem SS{all:List Met}:∀{l:List Met},qk b all l=true->∀x∈l,td x=true\/sC b x all=true
 |[],_,x,hx=>by cases hx
 |z::l,h,x,hx=>by
  simp only[qk] at h;cases q:(td z||sC b z all) with
  |false=>rw[q] at h;cases h
  |true=>
   rw[q] at h;rcases List.mem_cons.1 hx with rfl|hx
   ·exact Bool.or_eq_true_iff.1 q
   ·exact SS h x hx
theorem R2{m:List Nat}:∀{l:List Nat},meets l m=false->∀x∈l,x ∉ m
 |[],_,x,hx=>by cases hx
 |z::l,h,x,hx=>by
  simp only[meets] at h;cases q:Bt z m with
  |true=>rw[q] at h;cases h
  |false=>
   rw[q] at h;rcases List.mem_cons.1 hx with rfl|hx
   ·intro e;rw[Ib.2 e] at q;cases q
   ·exact R2 h x hx
theorem R3{lo hi:Nat}:∀{l:List Nat},zh lo hi l=false->∀x∈l,¬(lo<=x/\x<hi)
 |[],_,x,hx=>by cases hx
 |z::l,h,x,hx=>by
  simp only[zh] at h;cases q:(Nat.ble lo z&&Nat.blt z hi) with
  |true=>rw[q] at h;cases h
  |false=>
   rw[q] at h;rcases List.mem_cons.1 hx with rfl|hx
   ·rintro ⟨h1,h2⟩;rw[show Nat.ble lo x=true from aK.2 h1,show Nat.blt x hi=true from(blt_eq _ _).mpr h2] at q;cases q
   ·exact R3 h x hx
section
variable {P:Program} {YR:aJ} {ops:Array Oper} {nt:Nat}
structure PG (P:Program) (YR:aJ) (ops:Array Oper) (nt:Nat) (H:Nat->Tr ae) (N:Nat->Nat) (T:Nat->Tr AV) (k:Nat) (o:Oper) (x:Met) (s1:AS):Prop where
 lo:x.lo=N k
 hi:x.hi=N (k+1)
 run:gO P YR nt ops o (T k) ⟨H k,N k,N k,[],[]⟩= .ok (T<|k+1) s1
 h:s1.h=H (k+1)
 nx:s1.nx=N (k+1)
 rd:x.rd=below (N k) s1.rd
 wr:x.wr=below (N k) s1.wr
theorem SU(hl:∀t a,YQ<|YR t a):∀(l:List Oper) (i:Nat) {t t':Tr AV} {s s':AS} {ms:List Met},bC s->mY P YR nt ops l i t s= .ok (t',ms) s'->
 bC s'/\∃(H:Nat->Tr ae) (N:Nat->Nat) (T:Nat->Tr AV),H 0=s.h/\N 0=s.nx/\T 0=t/\H l.length=s'.h/\N l.length=s'.nx/\T l.length=t'/\(∀k,k<=l.length->N k<=top)/\∀k o,l[k]? =some o->∃x s1,ms[k]? =some x/\x.i=i+k/\PG P YR ops nt H N T k o x s1
 |[],i,t,t',s,s',ms,fi,h=>by obtain⟨e,rfl⟩:=bB (show M.pure (t,[]) s= .ok (t',ms) s' from h);cases e;exact⟨fi,fun _=>s'.h,fun _=>s'.nx,fun _=>t,rfl,rfl,rfl,rfl,rfl,rfl,fun _ _=>fi.nx,fun k o h=>by simp at h⟩
 |o::l,i,t,t',s,s',ms,fi,h=>by
  obtain⟨x,s2,h1,h2⟩:=M.aN (show((alone i<|gO P YR nt ops o t).bind fun x=>(mY P YR nt ops l (i+1) x.1).bind fun y=>M.pure (y.1,x.2::y.2)) s= .ok (t',ms) s' from h);obtain⟨y,s3,h3,h4⟩:=M.aN h2;obtain⟨e,rfl⟩:=bB h4;cases e;obtain⟨a,s1,g1,rfl,rfl⟩:=SJ h1;have Qp:bC s1:=(YQ.gO P hl nt ops o t).cn (s:=⟨s.h,s.nx,s.nx,[],[]⟩) ⟨Nat.le_refl _,fi.nx⟩ g1;have fle:s.nx<=s1.nx:=(YQ.gO P hl nt ops o t).le (s:=⟨s.h,s.nx,s.nx,[],[]⟩) ⟨Nat.le_refl _,fi.nx⟩ g1;have dz:bC ⟨s1.h,s1.nx,s.mark,below s.mark s1.rd++s.rd,below s.mark s1.wr++s.wr⟩:=⟨Nat.le_trans fi.mark fle,Qp.nx⟩;obtain⟨f3,H,N,T,a1,a2,a3,a4,a5,a6,a7,a8⟩:=SU hl l (i+1) (t':=y.1) (ms:=y.2) dz h3;refine⟨f3,fun k=>match k with|0=>s.h|k+1=>H k,fun k=>match k with|0=>s.nx|k+1=>N k,fun k=>match k with|0=>t|k+1=>T k,rfl,rfl,rfl,a4,a5,a6,?_,?_⟩
  ·intro k hk;cases k with
   |zero=>exact fi.nx
   |succ k=>exact a7 k (by simpa using hk)
  ·intro k o2 hk;cases k with
   |zero=>simp only[List.getElem?_cons_zero,Option.some.injEq] at hk;subst hk;refine⟨_,s1,rfl,rfl,⟨rfl,a2.symm,?_,a1.symm,a2.symm,rfl,rfl⟩⟩;show gO P YR nt ops o t ⟨s.h,s.nx,s.nx,[],[]⟩= .ok (T 0) s1;rw[a3];exact g1
   |succ k=>simp only[List.getElem?_cons_succ] at hk;obtain⟨x,s4,b1,b2,b3⟩:=a8 k o2 hk;exact⟨x,s4,by simpa using b1,by rw[b2];omega,⟨b3.lo,b3.hi,b3.run,b3.h,b3.nx,b3.rd,b3.wr⟩⟩
structure Text (P:Program) (YR:aJ) (ops:Array Oper) (nt:Nat) (H:Nat->Tr ae) (N:Nat->Nat) (T:Nat->Tr AV) (Rd Wr:Nat->Nat->Prop):Prop where
 top:∀k,k<=ops.size->N k<=Rn.top
 up:∀k,k<ops.size->N k<=N (k+1)
 mM:∀k m,k<ops.size->¬Wr k m->m<Rn.top->(H<|k+1).get m=(H k).get m
 made:∀k m,k<ops.size->N k<=m->m<N (k+1)->Wr k m
 wrote:∀k m,k<ops.size->Wr k m->m<N (k+1)/\(m<N k->Rd k m)
 slot:∀k o d,ops[k]? =some o->o.dst≠some d->(T<|k+1).get d=(T k).get d
 apart:∀i j m,i<ops.size->j<ops.size->i≠j->loose (Region.before ops) i j=true->Wr i m->¬Rd j m
 again:∀j o,ops[j]? =some o->∀(h:Tr ae),(∀m,m<Rn.top->Rd j m->h.get m=(H j).get m)->∃t1,gO P YR nt ops o (T j) ⟨h,N j,N j,[],[]⟩= .ok (T<|j+1) t1/\t1.nx=N (j+1)/\
  (∀m,Wr j m->t1.h.get m=(H<|j+1).get m)/\(∀m,¬Wr j m->m<Rn.top->t1.h.get m=h.get m)
theorem ac1(hl:∀t a,YQ<|YR t a)(iX:nt<=top){t t':Tr AV}{s s':AS}{ms:List Met}(fi:bC s)(h:mY P YR nt ops ops.toList 0 t s= .ok (t',ms) s')(hm:qk (Region.before ops) ms ms=true):
 bC s'/\∃(H:Nat->Tr ae) (N:Nat->Nat) (T:Nat->Tr AV) (Rd Wr:Nat->Nat->Prop),H 0=s.h/\N 0=s.nx/\T 0=t/\H ops.size=s'.h/\N ops.size=s'.nx/\T ops.size=t'/\Text P YR ops nt H N T Rd Wr:=by
 obtain⟨f',H,N,T,a1,a2,a3,a4,a5,a6,a7,a8⟩:=SU hl ops.toList 0 fi h;have hlen:ops.toList.length=ops.size:=by simp
 rw[hlen] at a4 a5 a6 a7;refine⟨f',H,N,T,fun k m=>∃x,ms[k]? =some x/\m∈x.rd,fun k m=>∃x,ms[k]? =some x/\(m∈x.wr\/(N k<=m/\m<N (k+1))),a1,a2,a3,a4,a5,a6,?_⟩;have ar:∀k,k<ops.size->∃o x s1,ops[k]? =some o/\ms[k]? =some x/\x.i=k/\PG P YR ops nt H N T k o x s1:=by
  intro k hk;have ho:ops.toList[k]? =some ops[k]:=by simp[hk]
  obtain⟨x,s1,b1,b2,b3⟩:=a8 k _ ho;exact⟨ops[k],x,s1,Array.getElem?_eq_getElem hk,b1,by omega,b3⟩
 have K2:∀k,k<ops.size->∀o x s1,PG P YR ops nt H N T k o x s1->∃dr dw,KP ⟨H k,N k,N k,[],[]⟩ s1 dr dw/\
  (∀A m0 t,O3 A m0 ⟨H k,N k,N k,[],[]⟩ t->(∀q∈dr,q<m0->A q)->∃t1,gO P YR nt ops o (T k) t= .ok (T<|k+1) t1/\WL A m0 s1 t t1 dr dw)/\(∀m,m∈x.rd↔m∈dr/\m<N k)/\(∀m,m∈x.wr↔m∈dw/\m<N k):=by
  intro k hk o x s1 hd;obtain⟨dr,dw,d1,d2⟩:=YQ.gO P hl nt ops o (T k) _ _ _ ⟨Nat.le_refl _,a7 k aj⟩ hd.run;refine⟨dr,dw,d1,d2,fun m=>?_,fun m=>?_⟩
  ·rw[hd.rd,wL,d1.rd];simp
  ·rw[hd.wr,wL,d1.wr];simp
 refine⟨a7,?_,?_,?_,?_,?_,?_,?_⟩
 ·intro k hk;obtain⟨o,x,s1,_,_,_,hd⟩:=ar k hk;obtain⟨dr,dw,d1,_⟩:=K2 k hk o x s1 hd;have:=d1.nx;rw[hd.nx] at this;exact this
 ·intro k m hk hw kg;obtain⟨o,x,s1,_,hx,_,hd⟩:=ar k hk;obtain⟨dr,dw,d1,_,_,d4⟩:=K2 k hk o x s1 hd;rw[←hd.h];by_cases q:m<N k
  ·refine d1.same m q fun e=>hw ⟨_,hx,.inl<|(d4 m).2 ⟨e,q⟩⟩
  ·refine d1.rT m ?_ kg;rw[hd.nx];rcases Nat.lt_or_ge m (N<|k+1) with q2|q2
   ·exact absurd ⟨_,hx,.inr ⟨by omega,q2⟩⟩ hw
   ·exact q2
 ·intro k m hk h1 h2;obtain⟨o,x,s1,_,hx,_,hd⟩:=ar k hk;exact⟨x,hx,.inr ⟨h1,h2⟩⟩
 ·rintro k m hk ⟨x',qL,hw⟩;obtain⟨o,x,s1,_,hx,_,hd⟩:=ar k hk;rw[hx] at qL;cases qL;obtain⟨dr,dw,d1,_,d3,d4⟩:=K2 k hk o _ s1 hd;have GZ:=d1.nx;rw[hd.nx] at GZ;have ahJ:N k<=N (k+1):=GZ;rcases hw with hw|⟨h1,h2⟩
  ·obtain⟨e1,e2⟩:=(d4 m).1 hw;exact⟨by omega,fun _=>⟨_,hx,(d3 m).2 ⟨d1.sub m e1,e2⟩⟩⟩
  ·exact⟨h2,fun q=>by omega⟩
 ·intro k o d ho ch;have hk:k<ops.size:=(Array.getElem?_eq_some_iff.1 ho).1;obtain⟨o',x,s1,kJ,hx,_,hd⟩:=ar k hk;rw[ho] at kJ;cases kJ;obtain⟨v,hv,_⟩:=Se (u:=T k) (fun _ _=>rfl) hd.run;rcases CF hv with⟨_,e⟩|⟨d',e1,e2,e3⟩
  ·rw[e]
  ·rw[e3,Tr.lP _ _ _ _<|Nat.lt_of_lt_of_le e2 iX,if_neg (by intro e;subst e;exact ch e1)]
 ·rintro i j m hi hj ch aeJ ⟨x',qL,hw⟩ ⟨y',v7,hr⟩;obtain⟨_,x,s1,_,hx,xi,hd⟩:=ar i hi;obtain⟨_,y,s2,_,hy,yi,he⟩:=ar j hj;rw[hx] at qL;cases qL;rw[hy] at v7;cases v7;rcases SS hm _ (List.mem_of_getElem? hx) with q|q
  ·unfold td at q;split at q
   ·rename_i hwr;rcases hw with hw|⟨h1,h2⟩
    ·rw[hwr] at hw;cases hw
    ·have:=aK.1 q;rw[hd.lo,hd.hi] at this;omega
   ·cases q
  ·rcases Rv q _ (List.mem_of_getElem? hy) with e|e|e
   ·rw[xi,yi] at e;exact ch e
   ·unfold s8 at e;simp only[Bool.and_eq_true,Bool.not_eq_true'] at e;rcases hw with hw|⟨h1,h2⟩
    ·exact R2 e.1 m hw hr
    ·exact R3 e.2 m hr ⟨by rw[hd.lo];exact h1,by rw[hd.hi];exact h2⟩
   ·rw[xi,yi,aeJ] at e;cases e
 ·intro j o ho h' hag;have hj:j<ops.size:=(Array.getElem?_eq_some_iff.1 ho).1;obtain⟨o',x,s1,kJ,hx,_,hd⟩:=ar j hj;rw[ho] at kJ;cases kJ;obtain⟨dr,dw,d1,d2,d3,d4⟩:=K2 j hj o x s1 hd;obtain⟨t1,c1,c2⟩:=d2 (fun m=>∃x,ms[j]? =some x/\m∈x.rd) (N j) ⟨h',N j,N j,[],[]⟩
   ⟨rfl,rfl,Nat.le_refl _,fun k hk cS=>by
    rcases cS with cS|cS
    ·exact(hag k (Nat.lt_of_lt_of_le hk<|a7 j aj) cS).symm
    ·exact absurd hk<|Nat.not_lt.2 cS⟩ (fun q hq cf=>⟨x,hx,(d3 q).2 ⟨hq,cf⟩⟩)
  have ct:t1.nx=N (j+1):=by rw[←c2.agree.nx,hd.nx]
  refine⟨t1,c1,ct,?_,?_⟩
  ·rintro m ⟨x',qL,hw⟩;rw[hx] at qL;cases qL;rw[←hd.h];have GZ:=d1.nx;rw[hd.nx] at GZ;have ahJ:N j<=N (j+1):=GZ;symm;rcases hw with hw|⟨h1,h2⟩
   ·obtain⟨e1,e2⟩:=(d4 m).1 hw;exact c2.agree.is m (by rw[hd.nx];omega)<|.inl ⟨x,hx,(d3 m).2 ⟨d1.sub m e1,e2⟩⟩
   ·exact c2.agree.is m (by rw[hd.nx];exact h2)<|.inr h1
  ·intro m hw kg;by_cases q:m<N j
   ·exact c2.same m q fun e=>hw ⟨_,hx,.inl<|(d4 m).2 ⟨e,q⟩⟩
   ·refine c2.rT m ?_ kg;rw[hd.nx];rcases Nat.lt_or_ge m (N<|j+1) with q2|q2
    ·exact absurd ⟨_,hx,.inr ⟨by omega,q2⟩⟩ hw
    ·exact q2
end
end Go.Rn
