import Derived.Test.YtbkagfkpnnoacaaDoorRnGB
import Derived.MapKept
import Derived.AtR
import Derived.Orders
set_option maxRecDepth 100000
set_option maxHeartbeats 8000000
set_option linter.unusedSimpArgs false
set_option linter.unusedVariables false
namespace Go.Rn
open Go.RowKit
variable {α:Type} {vb va:Value} {v:α} {ts:Array TypeId} {size n:Nat} {s2:AS} {a:AV}
theorem YF.cm{m:M α}(hm:YF m){s s1:AS}(fi:bB s)(h:m s= .ok v s1):bB s1:=by obtain⟨dr,dw,d,_⟩:=hm s v s1 fi h;exact d.cm fi
theorem YF.le{m:M α}(hm:YF m){s s1:AS}(fi:bB s)(h:m s= .ok v s1):s.nx<=s1.nx:=by obtain⟨dr,dw,d,_⟩:=hm s v s1 fi h;exact d.nx
section
variable {P:Program} {B:aJ} {ρ:Ren} {w:World} {s s1:AS} {x:AV} {YG:aK} {t:Tr AV} {ev:Operand->Value} {o:Oper}
theorem jT.nx{c:Sem Value}(h:jT P B ρ s2 s1 w x c)(e:s2.nx=s.nx):jT P B ρ s s1 w x c:=by unfold jT at h ⊢;rw[e] at h;exact h
theorem RG{elem sT:TypeId}{len c m b N:Nat}{xv:Value}{xt:Option TypeId}{args:Array TypeId}{dy new:List AV}{vn:Array Value}{p:ae}{bytes:Nat}{vo:List Value}(hu:P.underlying sT=some (.slice elem))(ya:args[0]? =some sT)(uf:args[1]? =xt)(hx:po P xt=true)(hi:eF P elem=some size)(hn:(Builtin.lenOf xv).run P w= .ok n w)(hle:len+n<=c)(r:Rel B ρ s.h w)(ht:m<top)(hg:s.h.get m=some p)(hp:p.yF=true)(hm:ρ m=some (b,N))(hc:c*size<=N)(hf:dA s.nx s1.nx ρ)(eW:dy.length=len*size)(yb:new.length=n*size)(kB:s2.h=s.h.put m none)(Ky:s2.nx=s.nx)(hw:(Builtin.firstCells size n xv).run P w= .ok vn w)(hold:∀j v,vo[j]? =some v->w.cell? ⟨b,0+j,none⟩=some v)(ho:ay ρ dy vo)(D2:ay ρ new vn.toList)(h:grown size bytes (len+n) dy new s2= .ok x s1):jT P B ρ s s1 w x<|Builtin.append_ args 0 #[.slice (some ⟨b,0,none⟩) len c,xv]:=by
 obtain⟨o',hb,hO,hB⟩:=r.block ht hg hm;cases p with
 |cells k tr z=>
  obtain⟨c0,e0,rfl,jk,hk,row⟩:=hO;unfold grown at h;obtain⟨_,h2⟩:=cV h;obtain⟨q,s3,h3,h4⟩:=M.aN h2;obtain⟨rfl,rfl⟩:=bA h4;unfold newRow at h3;obtain⟨q1,q2⟩:=cV h3;obtain⟨q3,q4⟩:=and_true.1 q1;obtain⟨D3,rfl,rfl⟩:=uJ q2;have vC:∀y∈dy++new,y.bR=true:=fun y hy=>List.all_eq_true.1 q4 y hy;have hlen:(dy++new).length<=top:=aL.1 q3;have hvl:=D2.length;have Xp:=ho.length;have hmul:len*size+n*size<=c*size:=by rw[←Nat.add_mul];exact Nat.mul_le_mul_right _ hle
  have J1:len*size+vn.toList.length<=c0.size:=by omega
  have cz:=Mh (P:=P) (off:=len*size) (vs:=vn.toList) hb J1<|Hr D2 fun y hy=>vC y<|List.mem_append_right _ hy;obtain⟨g1,g2⟩:=LG (cs:=(c0.toList.take (len*size)++vn.toList++c0.toList.drop (len*size+vn.toList.length)).toArray) hb;have qu:=IA (P:=P) (w:=w) (base:=some ⟨b,0,none⟩) hu ya uf hx hi hn hle hw (by show(storeCells ((Addr.mk b 0 none).add<|len*size) vn.toList).run P w=_;rw[Addr.qU,Nat.zero_add];exact cz);obtain⟨d1,d2⟩:=r.Vh ht hg rfl rfl hm g1;have jb:ρ s2.nx=none:=hf s2.nx aj (Nat.lt_succ_self _) aj;refine⟨eM ρ s2.nx (b,N),_,_,?_,qu,?_,?_,g1.below<|hB rfl⟩
  ·rw[←Ky];exact Ext.mq jb
  ·simp only[VR];exact⟨b,N,c,iP _ _ _,rfl,hle,hle,by omega⟩
  ·show Rel B _ (s2.h.put s2.nx<|some<|.cells (dy++new).length (Tr.fill (dy++new) 0 .nil) []) _;rw[kB];refine d1.name D3 jb rfl g2 (fun _=>hB rfl) (fun k' sh=>by
    cases e:ρ (Rn.hn k' b sh) with
    |none=>rfl
    |some x=>obtain⟨_,_,_,_,_,_,_,q3,_⟩:=r.fz k' b sh (by rw[e];exact fun h=>by cases h);exact absurd hm<|q3 m _ N ht hg rfl) d2 ?_ (r.tk.of (oi jb) (fun j q hj hq xN=>by
    rw[Tr.da _ _ _ _ D3 hj] at hq;by_cases e:j=s2.nx
    ·rw[if_pos e] at hq;cases hq;cases xN
    ·rw[if_neg e,Tr.da _ _ _ _ ht hj] at hq;by_cases e2:j=m
     ·rw[if_pos e2] at hq;cases hq
     ·rw[if_neg e2] at hq;exact hq) (by rw[g1.size];exact Nat.le_refl _) (fun b1 _ hn=>g1.block b1 fun e=>hn m _ N ht hg rfl (by rw[e];exact hm)) (fun b1 _ hn j q M hj hq gZ e2=>by
    rw[Tr.da _ _ _ _ D3 hj] at hq;by_cases e:j=s2.nx
    ·subst e;rw[iP] at e2;cases e2;exact hn m _ N ht hg rfl hm
    ·rw[if_neg e,Tr.da _ _ _ _ ht hj] at hq;rw[gI ρ _ e] at e2;by_cases e3:j=m
     ·rw[if_pos e3] at hq;cases hq
     ·rw[if_neg e3] at hq;exact hn j q M hj hq gZ e2) (fun j x sh _ _ e=>by rw[gI ρ _ (by have:=gb j x sh;omega)];exact e))
   refine⟨_,e0,rfl,?_,?_,fun i hi=>?_⟩
   ·exact(size_set J1).trans jk
   ·simp only[List.length_append];omega
   ·simp only[List.length_append] at hi;obtain⟨a,ha⟩:∃a,(dy++new)[i]? =some a:=⟨(dy++new)[i]'(by simp;exact hi),List.getElem?_eq_getElem _⟩;have mF:=yz (l:=dy++new) (i:=i) hlen (by simp;exact hi);obtain⟨v,hv,hr⟩:=(ho.append D2).get i a ha;refine⟨a,v,by rw[mF];exact ha,vC a<|List.mem_of_getElem? ha,?_,hr.mono<|oi jb⟩;simp only[List.getElem?_toArray];by_cases q:i<len*size
    ·rw[List.getElem?_append_left aj] at hv;have:=hold i v hv;simp only[World.cell?,hb,Nat.zero_add] at this;rw[List.append_assoc,List.getElem?_append_left vS,List.getElem?_take_of_lt q];simpa using this
    ·rw[List.getElem?_append_right aj] at hv;have hvi:i - vo.length<vn.toList.length:=(List.getElem?_eq_some_iff.1 hv).1;rw[List.append_assoc,List.getElem?_append_right vS];simp only[List.length_take,Array.length_toList];rw[Nat.min_eq_left aj,List.getElem?_append_left aj];rw[show i - len*size=i - vo.length from by omega];exact hv
 |_=>cases hp
theorem Y5{b:AV}(ha:VR ρ a va)(hb:VR ρ b vb)(fi:bB s)(r:Rel B ρ s.h w)(hf:dA s.nx s1.nx ρ)(h:pn P ts a b s= .ok x s1):
 jT P B ρ s s1 w x (Builtin.append_ ts 0 #[va,vb]):=by
 unfold pn at h;obtain⟨sT,h1,h⟩:=bu h;cases e1:P.underlying sT with
 |none=>simp only[e1] at h;cases h
 |some d=>
  cases d<;>simp only[e1] at h<;>first|(cases h;done)|skip
  rename_i elem;cases a<;>simp only at h<;>first|(cases h;done)|skip
  rename_i base len cap _;obtain⟨i,h2,h⟩:=bu h;obtain⟨h3,h⟩:=cV h;obtain⟨hz,hx⟩:=and_true.1 h3;obtain⟨n,h4,h⟩:=bu h;obtain⟨new,s2,h5,h⟩:=M.aN h;obtain⟨h6,h⟩:=cV h;have yb:=ey.1 h6;have hi:eF P elem=some i.size:=by simp[eF,h2]
  obtain⟨k1,k2,vn,k3,k4⟩:=Hm (P:=P) hb fi r h5;have rd:Rel B ρ s.h {w with drawn:=w.drawn+1}:=r.Bm<|gN.drew w;obtain⟨_,_,vn',Kz,KD⟩:=Hm (P:=P) hb fi rd h5;have hn:=Sz (P:=P) (w:=w) hb h4;have dz:bB s2:=(YF.firstCells _ _ _).cm fi h5;have r2:Rel B ρ s2.h w:=by rw[k1];exact r
  have BN:Rel B ρ s2.h {w with drawn:=w.drawn+1}:=by rw[k1];exact rd
  unfold qR at h;cases cap with
  |lost=>cases h
  |known c=>
   simp only at h;cases q:Nat.ble (len+n) c with
   |true=>
    simp only[q] at h;have hle:=aL.1 q;obtain⟨u,s3,h7,h8⟩:=M.aN h;obtain⟨rfl,rfl⟩:=bA h8;cases base with
    |none=>
     obtain⟨rfl,rfl⟩:=bA h7;obtain⟨rfl,hc,rfl⟩:=lJ ha;cases hc;have oZ:n=0:=by omega
     subst oZ;refine⟨ρ,w,_,by rw[k2];exact Ext.refl _ _ _,IA (P:=P) (w:=w) (base:=none) e1 h1 rfl hx hi hn hle k3 rfl,?_,r2,cw.refl _ _⟩;simp[VR]
    |some p=>obtain⟨m,j⟩:=p;have qE:=ha;simp only[VR] at qE;obtain⟨bb,N,hm,rfl⟩:=qE;obtain⟨g1,w',g2,g3,g4⟩:=Lt (P:=P) dz r2 h7 hm k4;refine⟨ρ,w',_,by rw[g1,k2];exact Ext.refl _ _ _,IA (P:=P) (w:=w) (base:=some ⟨bb,j,none⟩) e1 h1 rfl hx hi hn hle k3 (by show(storeCells ((Addr.mk bb j none).add<|len*i.size) vn.toList).run P w=_;rw[Addr.qU];exact g2),?_,g3,g4⟩;simp only[VR];exact⟨bb,N,hm,rfl⟩
   |false=>
    simp only[q] at h;have bZ:c<len+n:=by
     rcases Nat.lt_or_ge c (len+n) with e|e
     ·exact e
     ·rw[aL.2 e] at q;cases q
    obtain⟨dy,s3,h7,h8⟩:=M.aN h;obtain⟨j1,j2,vo,j3,j4⟩:=Hm (P:=P) ha dz BN h7;have Xp:=aef dz r2 ha (by intro e;cases e) h7;have:∃VW:Option Addr,va= .slice VW len c:=by
     cases base with
     |none=>obtain⟨rfl,hc,rfl⟩:=lJ ha;cases hc;exact⟨_,rfl⟩
     |some p=>obtain⟨m,j⟩:=p;simp only[VR] at ha;obtain⟨_,_,_,rfl⟩:=ha;exact⟨_,rfl⟩
    obtain⟨VW,hva⟩:=this;refine jT.nx (s2:=s3) (Mj (P:=P) hva e1 h1 rfl hx h2 hz hn bZ (by rw[j1];exact r2) (by rw[j2,k2];exact hf) Xp yb j3 Kz j4 KD h8) (by rw[j2,k2])
  |aq lo sz=>
   obtain⟨h7,h⟩:=cV h;have:=ey.1 h7;subst this;cases q:Nat.ble (len+n) lo with
   |true=>
    simp only[q] at h;have hle:=aL.1 q;cases base with
    |none=>cases h
    |some p=>
     obtain⟨m,j⟩:=p;simp only at h;obtain⟨u,s3,h8,h9⟩:=M.aN h;obtain⟨rfl,rfl⟩:=bA h9;have qE:=ha;simp only[VR] at qE;obtain⟨bb,N,c,hm,rfl,eW,KF,hN⟩:=qE;have J1:j+len*i.size+new.length<=N:=by have:(len+n)*i.size<=c*i.size:=Nat.mul_le_mul_right _ aj;rw[Nat.add_mul] at this;omega
     obtain⟨g1,w',g2,g3,g4⟩:=YW (P:=P) dz r2 J1 h8 hm k4;refine⟨ρ,w',_,by rw[g1,k2];exact Ext.refl _ _ _,IA (P:=P) (w:=w) (base:=some ⟨bb,j,none⟩) e1 h1 rfl hx hi hn aj k3 (by show(storeCells ((Addr.mk bb j none).add<|len*i.size) vn.toList).run P w=_;rw[Addr.qU];exact g2),?_,g3,g4⟩;simp only[VR];exact⟨bb,N,c,hm,rfl,eW,by omega,hN⟩
   |false=>
    simp only[q] at h;cases base with
    |none=>cases h
    |some p=>
     obtain⟨m,j⟩:=p;cases j with
     |succ j=>cases h
     |zero=>
      simp only at h;obtain⟨dy,s3,h8,h⟩:=M.aN h;obtain⟨ob,s4,h9,h⟩:=M.aN h;obtain⟨gE,h⟩:=cV h;obtain⟨u,s5,ug,qF⟩:=M.aN h;have qE:=ha;simp only[VR] at qE;obtain⟨bb,N,c,hm,rfl,eW,KF,hN⟩:=qE;obtain⟨j1,j2,j3,j4,vo,j5,j6,j7⟩:=yy (P:=P) dz r2 h8 hm;obtain⟨_,_,_,_,vo',P9,Qa,_⟩:=yy (P:=P) dz BN h8 hm;obtain⟨i1,i2,i3,i4⟩:=fU h9;obtain⟨i5,i6,i7,i8,i9⟩:=jx ug;have hh:s4.h=s2.h:=i3.trans j1;have cr:s4.nx=s.nx:=(i4.trans j2).trans k2;by_cases hq:len+n<=c
      ·refine jT.nx (s2:=s2) ?_ k2;refine RG (P:=P) (s:=s2) (s2:=s5) (p:=ob) (vo:=vo) e1 h1 rfl hx hi hn hq r2 i6 (by rw[←j1];exact i2) gE hm aj (by rw[k2];exact hf) j3 yb (by rw[i8,hh]) (by rw[i9,cr,k2]) k3 j7 j6 k4 qF
      ·have Qb:s4.h.get m≠some .iA:=by intro e;rw[i3,i2] at e;injection e with e;subst e;cases gE
       refine jT.nx (s2:=s5) (Mj (P:=P) rfl e1 h1 rfl hx h2 hz hn aj (by rw[i8];exact Rel.drop (by rw[hh];exact r2) i6 Qb) (by rw[i9,cr];exact hf) j3 yb (by simpa[Builtin.firstCells] using P9) Kz (by simpa using Qa) KD qF) (by rw[i9,cr])
theorem Rr{o k:Nat}{v:Value}{l:List AV}{YG:aK}(eR:AW B YG)(ht:top<=n)(hb:VR ρ (.U n o k) v)(fi:bB s)(r:Rel B ρ s.h w)(h:su YG n o (k*size) s= .ok l s1):
 s1.h=s.h/\s1.nx=s.nx/\l.length=k*size/\(Builtin.lenOf v).run P w= .ok k w/\∃arr:Array Value,(Builtin.firstCells size k v).run P w= .ok arr w/\ay ρ l arr.toList:=by
 rcases Nat.eq_zero_or_pos (k*size) with hk|hk
 ·rw[show su YG n o (k*size)=M.pure [] from by rw[hk];rfl] at h;obtain⟨rfl,rfl⟩:=bA h;refine⟨rfl,rfl,hk.symm,?_⟩;simp only[VR] at hb;rcases hb with⟨_,rfl,a0,c,rfl,_⟩|⟨b,sh,c,e,rfl,_⟩
  ·refine⟨rfl, #[],?_,by simp[ay]⟩;cases a0<;>simp[Builtin.firstCells,loadCells,loadCellsFrom]
  ·refine⟨rfl, #[],?_,by simp[ay]⟩;simp[Builtin.firstCells,loadCells,loadCellsFrom,hk]
 rw[show su YG n o (k*size)=(YG (.row n o<|k*size) []).bind fun x=>match x with
  | .agg l=>aG (Nat.beq l.length<|k*size) <| M.pure l
  |_=>fail from by obtain⟨m,hm⟩:∃m,k*size=m+1:=⟨k*size - 1,by omega⟩;rw[hm];rfl] at h
 obtain⟨x,s2,h1,h2⟩:=M.aN h;split at h2<;>first|(cases h2;done)|skip
 rename_i l';obtain⟨h3,h4⟩:=cV h2;obtain⟨rfl,rfl⟩:=bA h4;obtain⟨a1,a2,a3⟩:=eR _ _ _ _ _ _ _ _ fi r h1;have hlen:=ey.1 h3;refine⟨a1,a2,hlen,?_⟩;simp only[VR] at hb;rcases hb with⟨_,rfl,a0,c,rfl,hz⟩|⟨b,sh,c,e,rfl,_⟩
 ·have:l=[]:=List.eq_nil_of_length_eq_zero (by rw[hlen,Nat.zero_mul]);subst this;refine⟨rfl, #[],?_,by simp[ay]⟩;cases a0<;>simp[Builtin.firstCells,loadCells,loadCellsFrom]
 ·obtain⟨l2,vs,e2,e3,e4,c',et,fr,e5,e6⟩:=a3 b sh<|e.high ht;injection e2 with e2
  subst e2;have FP:=H8 (P:=P) (w:=w) e5 e6;rw[e3] at FP;exact⟨rfl,vs.toArray,by simpa[Builtin.firstCells] using FP,by simpa using e4⟩
theorem Zi{n0 o0 k0:Nat}{YG:aK}(eR:AW B YG)(hl:∀t a,YF<|YG t a)(ha:VR ρ a va)(hb:VR ρ (.U n0 o0 k0) vb)(fi:bB s)(r:Rel B ρ s.h w)(hf:dA s.nx s1.nx ρ)(h:AA P YG ts a n0 o0 k0 s= .ok x s1):
 jT P B ρ s s1 w x (Builtin.append_ ts 0 #[va,vb]):=by
 unfold AA at h;obtain⟨dK,h⟩:=cV h;have dK:=aL.1 dK;obtain⟨sT,h1,h⟩:=bu h;cases e1:P.underlying sT with
 |none=>simp only[e1] at h;cases h
 |some d=>
  cases d<;>simp only[e1] at h<;>first|(cases h;done)|skip
  rename_i elem;obtain⟨m,len,cap,rfl⟩:∃m len cap,a= .slice (some (m,0)) len cap:=by
   cases a with
   |slice base len cap=>
    cases base with
    |none=>cases h
    |some p=>
     obtain⟨m,j⟩:=p;cases j with
     |succ j=>cases h
     |zero=>exact⟨m,len,cap,rfl⟩
   |_=>cases h
  obtain⟨i,h2,h⟩:=bu h;obtain⟨h3,h⟩:=cV h;obtain⟨hz,hx⟩:=and_true.1 h3;obtain⟨eN,h⟩:=cV h;obtain⟨new,s2,h5,h⟩:=M.aN h;have hi:eF P elem=some i.size:=by simp[eF,h2]
  obtain⟨k1,k2,yb,hn,vn,k3,k4⟩:=Rr (P:=P) eR dK hb fi r h5;have rd:Rel B ρ s.h {w with drawn:=w.drawn+1}:=r.Bm<|gN.drew w;obtain⟨_,_,_,_,vn',Kz,KD⟩:=Rr (P:=P) eR dK hb fi rd h5;have dz:bB s2:=(YF.su hl _ _ _).cm fi h5;have r2:Rel B ρ s2.h w:=by rw[k1];exact r
  have BN:Rel B ρ s2.h {w with drawn:=w.drawn+1}:=by rw[k1];exact rd
  have qE:∃bb N c,ρ m=some (bb,N)/\va= .slice (some ⟨bb,0,none⟩) len c/\len<=c/\0+c*i.size<=N:=by
   cases cap with
   |lost=>cases eN
   |known c=>obtain⟨q1,q2⟩:=and_true.1 eN;have q1:=ey.1 q1;have q2:=ey.1 q2;subst q1;subst q2;simp only[VR] at ha;obtain⟨bb,N,e,hv⟩:=ha;exact⟨bb,N,0,e,hv,Nat.le_refl _,by omega⟩
   |aq lo sz=>have:=ey.1 eN;subst this;simp only[VR] at ha;obtain⟨bb,N,c,hm,hv,_,KF,hN⟩:=ha;exact⟨bb,N,c,hm,hv,KF,hN⟩
  obtain⟨bb,N,c,hm,rfl,KF,hN⟩:=qE;obtain⟨dy,s3,h8,h⟩:=M.aN h;obtain⟨ob,s4,h9,h⟩:=M.aN h;obtain⟨gE,h⟩:=cV h;obtain⟨u,s5,ug,qF⟩:=M.aN h;obtain⟨j1,j2,j3,j4,vo,j5,j6,j7⟩:=yy (P:=P) dz r2 h8 hm;obtain⟨_,_,_,_,vo',P9,Qa,_⟩:=yy (P:=P) dz BN h8 hm;obtain⟨i1,i2,i3,i4⟩:=fU h9;obtain⟨i5,i6,i7,i8,i9⟩:=jx ug;have hh:s4.h=s2.h:=i3.trans j1;have cr:s4.nx=s.nx:=(i4.trans j2).trans k2;by_cases hq:len+k0<=c
  ·refine jT.nx (s2:=s2) ?_ k2;refine RG (P:=P) (s:=s2) (s2:=s5) (p:=ob) (vo:=vo) e1 h1 rfl hx hi hn hq r2 i6 (by rw[←j1];exact i2) gE hm aj (by rw[k2];exact hf) j3 yb (by rw[i8,hh]) (by rw[i9,cr,k2]) k3 j7 j6 k4 qF
  ·have Qb:s4.h.get m≠some .iA:=by intro e;rw[i3,i2] at e;injection e with e;subst e;cases gE
   refine jT.nx (s2:=s5) (Mj (P:=P) rfl e1 h1 rfl hx h2 hz hn aj (by rw[i8];exact Rel.drop (by rw[hh];exact r2) i6 Qb) (by rw[i9,cr];exact hf) j3 yb (by simpa[Builtin.firstCells] using P9) Kz (by simpa using Qa) KD qF) (by rw[i9,cr])
end
end Go.Rn
namespace Go.Rn
open Go.RowKit
variable {ts:Array TypeId} {vs:Array Value} {va:Value} {ty:TypeId} {consts:Array Bool} {b:Builtin} {a:AV}
section
variable {P:Program} {B:aJ} {ρ:Ren} {w:World} {s s1:AS} {x:AV} {YG:aK} {t:Tr AV} {ev:Operand->Value} {o:Oper}
theorem ZJ{b:AV}{vb:Value}(ha:VR ρ a va)(hb:VR ρ b vb)(fi:bB s)(r:Rel B ρ s.h w)(h:yM P ts a b s= .ok x s1):
 jT P B ρ s s1 w x (Builtin.copy_ ts 0 #[va,vb]):=by
 unfold yM at h;obtain⟨sT,h1,h⟩:=bu h;cases e1:P.underlying sT with
 |none=>simp only[e1] at h;cases h
 |some d=>
  cases d<;>simp only[e1] at h<;>first|(cases h;done)|skip
  rename_i elem;cases a<;>simp only at h<;>first|(cases h;done)|skip
  rename_i base len cap _;obtain⟨k,h2,h⟩:=bu h;obtain⟨n,h3,h⟩:=bu h;obtain⟨h4,h⟩:=cV h;obtain⟨cells,s2,h5,h⟩:=M.aN h;obtain⟨u,s3,h6,h7⟩:=M.aN h;obtain⟨rfl,rfl⟩:=bA h7;have hn:=Sz (P:=P) (w:=w) hb h3;obtain⟨k1,k2,vn,k3,k4⟩:=Hm (P:=P) hb fi r h5;have dz:bB s2:=(YF.firstCells _ _ _).cm fi h5;have r2:Rel B ρ s2.h w:=by rw[k1];exact r
  cases base with
  |none=>obtain⟨_,rfl⟩:=bA h6;obtain⟨rfl,hc,rfl⟩:=lJ ha;refine⟨ρ,w,.int .i64 (Nat.min n 0:Nat),by rw[k2];exact Ext.refl _ _ _,?_,by simp only[VR],r2,cw.refl _ _⟩;simp only[Builtin.copy_,h1,show(#[Value.slice none 0 0,vb]:Array Value)[0]? =some (.slice none 0 0) from rfl,show(#[Value.slice none 0 0,vb]:Array Value)[1]? =some vb from rfl,Sem.run_bind,dm e1,Result.andThen_ok,hn,iO h2,k3,Sem.run_pure,goInt]
  |some p=>
   obtain⟨m,i⟩:=p;have hq:∃bb N c,ρ m=some (bb,N)/\va= .slice (some ⟨bb,i,none⟩) len c:=by
    cases cap with
    |known c=>simp only[VR] at ha;obtain⟨bb,N,e,rfl⟩:=ha;exact⟨bb,N,c,e,rfl⟩
    |aq lo e0=>simp only[VR] at ha;obtain⟨bb,N,c,e,rfl,_⟩:=ha;exact⟨bb,N,c,e,rfl⟩
    |lost=>cases h4
   obtain⟨bb,N,c,hm,rfl⟩:=hq;obtain⟨g1,w',g2,g3,g4⟩:=Lt (P:=P) dz r2 h6 hm k4;refine⟨ρ,w',.int .i64 (Nat.min n len:Nat),by rw[g1,k2];exact Ext.refl _ _ _,?_,by simp only[VR],g3,g4⟩;simp only[Builtin.copy_,h1,show(#[Value.slice (some ⟨bb,i,none⟩) len c,vb]:Array Value)[0]? =some (.slice (some ⟨bb,i,none⟩) len c) from rfl,show(#[Value.slice (some ⟨bb,i,none⟩) len c,vb]:Array Value)[1]? =some vb from rfl,Sem.run_bind,dm e1,Result.andThen_ok,hn,iO h2,k3,Sem.run_pure,goInt,g2]
theorem dM.length:∀{x:List<|AV×AV} {l:List MapEntry},dM ρ x l->x.length=l.length
 |[],l,k=>by have k':l=[]:=k;subst k';rfl
 |_::_,_,k=>by obtain⟨e,es,rfl,_,_,d⟩:=k;simp[dM.length d]
theorem abA(ha:VR ρ a va)(fi:bB s)(r:Rel B ρ s.h w)(h:zl P ts a s= .ok x s1):
    jT P B ρ s s1 w x (Builtin.len_ ts 0 #[va]):=by
  unfold zl at h
  have h9:=M.aN h
  clear h
  obtain⟨sT,s0,h0,h⟩:=h9
  obtain⟨h1,KG⟩:=gT h0
  clear h0
  subst KG
  have Xq:(#[va]:Array Value)[0]? =some va:=rfl
  cases e1:P.underlying sT with
  |none=>simp only[e1] at h;cases h
  | some d=>
    have fin:∀n:Nat,(Builtin.len_ ts 0 #[va]).run P w= .ok (goInt n) w->x= .int .i64 n->s1.h=s0.h->s1.nx=s0.nx->jT P B ρ s0 s1 w x (Builtin.len_ ts 0 #[va]):=by
      intro n hr hx hh cr
      subst hx
      exact⟨ρ,w,_,by rw[cr];exact Ext.refl _ _ _,hr,by simp only[VR,goInt],by rw[hh];exact r,cw.refl _ _⟩
    cases d<;>simp only[e1] at h<;>first|(cases h;done)|skip
    case slice e=>
      cases a<;>first|(cases h;done)|skip
      case slice base len cap=>
        obtain⟨rfl,rfl⟩:=bA h
        have:∃p c,va= .slice p len c:=by
          cases base with
          |none=>obtain⟨rfl,_,rfl⟩:=lJ ha;exact⟨_,_,rfl⟩
          |some p=>obtain⟨m,j⟩:=p;obtain⟨_,_,_,_,_,rfl⟩:=uF ha;exact⟨_,_,rfl⟩
        obtain⟨p,c,rfl⟩:=this
        refine fin _ ?_ rfl rfl rfl
        simp only[Builtin.len_,h1,Xq,Sem.run_bind,dm e1,Result.andThen_ok,Sem.run_pure]
      case U n o len=>
        obtain⟨rfl,rfl⟩:=bA h
        simp only[VR] at ha
        rcases ha with⟨_,rfl,_,_,rfl,_⟩|⟨b,sh,c,_,rfl,_⟩<;>
        (refine fin _ ?_ rfl rfl rfl
         simp only[Builtin.len_,h1,Xq,Sem.run_bind,dm e1,Result.andThen_ok,Sem.run_pure])
theorem MS{f:AV->AV->Option AV}{g:Value->Value->Sem Value}(hf:∀a b c va vb,f a b=some c->VR ρ a va->VR ρ b vb->∃vc,(g va vb).run P w= .ok vc w/\VR ρ c vc):
 ∀{l:List AV} {vs:List Value} {a c:AV} {va:Value},CT f l a=some c->ay ρ l vs->VR ρ a va->∃vc,(vs.foldlM g va).run P w= .ok vc w/\VR ρ c vc
 |[],vs,a,c,va,h,hl,ha=>by
  simp only[ay] at hl;subst hl;simp only[CT] at h;injection h with h;subst h
  exact⟨va,rfl,ha⟩
 |y::l,vs,a,c,va,h,hl,ha=>by
  simp only[ay] at hl;obtain⟨v,ys,rfl,hv,hl⟩:=hl;simp only[CT] at h;cases e:f a y with
  |none=>rw[e] at h;cases h
  |some z=>simp only[e] at h;obtain⟨vz,g1,g2⟩:=hf a y z va v e ha hv;obtain⟨vc,g3,g4⟩:=MS hf h hl g2;exact⟨vc,by simp only[List.foldlM_cons,Sem.run_bind,g1,Result.andThen_ok,g3],g4⟩
theorem abB(a b c:AV)(va vb:Value)(h:min2 a b=some c)(ha:VR ρ a va)(hb:VR ρ b vb):∃vc,(Builtin.min2 va vb).run P w= .ok vc w/\VR ρ c vc:=by
 unfold min2 at h;split at h
 ·rename_i k x k2 y;injection h with h;subst h
  simp only[VR] at ha hb;subst ha;subst hb;refine⟨_,rfl,?_⟩;simp only[VR];by_cases q:y<x<;>simp[q]
 ·cases h
theorem abC(a b c:AV)(va vb:Value)(h:max2 a b=some c)(ha:VR ρ a va)(hb:VR ρ b vb):∃vc,(Builtin.max2 va vb).run P w= .ok vc w/\VR ρ c vc:=by
 unfold max2 at h;split at h
 ·rename_i k x k2 y;injection h with h;subst h
  simp only[VR] at ha hb;subst ha;subst hb;refine⟨_,rfl,?_⟩;simp only[VR];by_cases q:y>x<;>simp[q]
 ·cases h
theorem Y6{l:List AV}(hl:ay ρ l vs.toList)(fi:bB s)(r:Rel B ρ s.h w)(hf:dA s.nx s1.nx ρ)(h:yC P b ts l s= .ok x s1):gf P B ρ s s1 w x<|Go.builtin b ts ty consts vs:=by
 obtain⟨vs⟩:=vs;unfold yC at h;split at h
 ·rename_i y;simp only[ay] at hl;obtain⟨v,ys,rfl,hv,rfl⟩:=hl;exact(abA hv fi r h).op
 ·rename_i y z;simp only[ay] at hl;obtain⟨v,ys,rfl,hv,v2,D4,rfl,rO,rfl⟩:=hl;exact(Y5 hv rO fi r hf h).op
 ·rename_i y z;simp only[ay] at hl;obtain⟨v,ys,rfl,hv,v2,D4,rfl,rO,rfl⟩:=hl;exact(ZJ hv rO fi r h).op
 ·rename_i y z;simp only[ay] at hl;obtain⟨v,ys,rfl,hv,hl⟩:=hl;obtain⟨h1,rfl⟩:=gT h;obtain⟨vc,g1,g2⟩:=MS (P:=P) (w:=w) abB h1 hl hv;exact jT.op (c:=Builtin.min_ ts ty ⟨v::ys⟩) ⟨ρ,w,vc,Ext.refl _ _ _,g1,g2,r,cw.refl _ _⟩
 ·rename_i y z;simp only[ay] at hl;obtain⟨v,ys,rfl,hv,hl⟩:=hl;obtain⟨h1,rfl⟩:=gT h;obtain⟨vc,g1,g2⟩:=MS (P:=P) (w:=w) abC h1 hl hv;exact jT.op (c:=Builtin.max_ ts ty ⟨v::ys⟩) ⟨ρ,w,vc,Ext.refl _ _ _,g1,g2,r,cw.refl _ _⟩
 ·cases h
theorem ZK{y:AV}{n q k:Nat}(eR:AW B YG)(o5:∀t a,YF<|YG t a)(hl:ay ρ [y,.U n q k] vs.toList)(fi:bB s)(r:Rel B ρ s.h w)(hf:dA s.nx s1.nx ρ)(h:AA P YG ts y n q k s= .ok x s1):gf P B ρ s s1 w x<|Go.builtin .append ts ty consts vs:=by obtain⟨vs⟩:=vs;simp only[ay] at hl;obtain⟨v,ys,rfl,hv,hl⟩:=hl;obtain⟨v2,D4,rfl,rO,rfl⟩:=hl;exact(Zi eR o5 hv rO fi r hf h).op
theorem Y7{args:Array Operand}(eR:AW B YG)(o5:∀t a,YF<|YG t a)(he:∀x v,aH t x=some v->VR ρ v (ev x))(fi:bB s)(r:Rel B ρ s.h w)(hf:dA s.nx s1.nx ρ)(h:og P b ts args.toList YG t s= .ok x s1)(ho:o.op= .call ⟨.builtin b,args,ts⟩):gf P B ρ s s1 w x<|execOp ev o:=by
 unfold og at h;obtain⟨vs,h1,h2⟩:=bu h;have hl:=EY he h1;have key:(∃y n q k,b= .append/\vs=[y,.U n q k]/\AA P YG ts y n q k s= .ok x s1)\/yC P b ts vs s= .ok x s1:=by
  split at h2
  ·exact .inl ⟨_,_,_,_,rfl,rfl,h2⟩
  ·exact .inr h2
 have all:∀consts:Array Bool,gf P B ρ s s1 w x<|Go.builtin b ts o.type consts<|args.map ev:=fun consts=>by
  rcases key with⟨y,n,q,k,rfl,rfl,h2⟩|h2
  ·exact ZK eR o5 (by simpa using hl) fi r hf h2
  ·exact Y6 (vs:=args.map ev) (by simpa using hl) fi r hf h2
 have:=all (args.map fun| .const _=>true|_=>false);obtain⟨σ,w',nv,a1,a2,a3⟩:=this;refine⟨σ,w',nv,a1,?_,a3⟩;simp only[execOp,ho,resolve,Sem.run_bind,Sem.run_pure,Result.andThen_ok,invoke];exact a2
end
end Go.Rn
namespace Go.Rn
open Go.RowKit
variable {key a:AV} {v:Value} {r:Option<|Nat×AV} {kd:TypeDesc} {k:TypeId} {l:List MapEntry} {es:List<|AV×AV}
section
variable {P:Program} {B:aJ} {ρ:Ren} {w:World} {s s1:AS} {x:AV} {YG:aK} {t:Tr AV} {ev:Operand->Value} {o:Oper}
theorem Lw{em:Bool}{d:Nat}{BG:TypeId->AV->Bool}(hc:∀ty a v,BG ty a=true->VR ρ a v->(Instr.checkKey em d ty v).run P w= .ok () w){cs:List AV}{ds:Array Value}(hx:ay ρ cs ds.toList):∀{fs:List Field},EG P BG cs fs=true->
 (forIn fs PUnit.unit fun f _=>do
  if f.name≠ "_" then do
   Instr.checkKey em d f.type (←part f.type ds f.offset)
   pure (ForInStep.yield PUnit.unit)
  else pure (ForInStep.yield PUnit.unit):Sem PUnit).run P w= .ok PUnit.unit w
 |[],_=>rfl
 |f::fs,h=>by
  simp only[EG] at h;rw[List.forIn_cons];cases en:(f.name == "_") with
  |true=>
   simp only[en] at h;have:¬(f.name≠ "_"):=by simpa using en
   rw[if_neg this];simp only[Sem.run_bind,Sem.run_pure,Result.andThen_ok];exact Lw hc hx h
  |false=>
   simp only[en] at h;have cf:f.name≠ "_" :=by intro e;rw[e] at en;simp at en
   rw[if_pos cf];cases e1:pz P f.type cs f.offset with
   |none=>simp only[e1] at h;cases h
   |some a=>
    simp only[e1] at h;obtain⟨v,g1,g2⟩:=EH (w:=w) hx e1;cases e2:BG f.type a with
    |false=>simp only[e2] at h;cases h
    |true=>simp only[e2] at h;simp only[Sem.run_bind,Sem.run_pure,Result.andThen_ok,g1,hc _ _ _ e2 g2];exact Lw hc hx h
theorem HO{em:Bool}:∀{d:Nat} {ty:TypeId} {a:AV} {v:Value},ox P d ty a=true->VR ρ a v->(Instr.checkKey em d ty v).run P w= .ok () w
 |0,_,_,_,h,_=>by simp only[ox] at h;cases h
 |d+1,ty,a,v,h,ha=>by
  simp only[ox] at h;rw[Instr.checkKey];split at h<;>first|(cases h;done)|skip
  ·rename_i e;simp[dm e]
  ·rename_i e;simp[dm e]
  ·rename_i e;simp[dm e]
  ·rename_i fs cs e;simp only[VR] at ha;obtain⟨ds,rfl,hl⟩:=ha;simp only[Sem.run_bind,dm e,Result.andThen_ok];have:=Lw (P:=P) (w:=w) (em:=em) (d:=d) (fun ty a v h1 h2=>HO h1 h2) hl h;rw[←Array.forIn_toList];simp only[this,Result.andThen_ok,Sem.run_pure]
theorem Ez{b:AV}{c:Bool}{u:Value}(hk:P.underlying k=some kd)(hp:plainKey P k a=true)(h:sameKey a b=some c)(ha:VR ρ a v)(hb:VR ρ b u):Instr.sameNow kd v u=some c:=by
 unfold plainKey at hp;rw[hk] at hp;unfold sameKey at h;split at h<;>first|(cases h;done)|skip
 ·rename_i k1 x1 k2 x2;simp only[VR] at ha hb;subst ha;subst hb;cases Qc:decide (k1=k2) with
  |false=>rw[Qc] at h;cases h
  |true=>
   rw[Qc] at h;injection h with h;subst h
   have:=of_decide_eq_true Qc;cases kd<;>first|(cases hp;done)|simp[Instr.sameNow,this]
 ·injection h with h;subst h
  simp only[VR] at ha hb;subst ha;subst hb;cases kd<;>first|(cases hp;done)|simp[Instr.sameNow]
 ·injection h with h;subst h
  simp only[VR] at ha hb;subst ha;subst hb;cases kd<;>first|(cases hp;done)|simp[Instr.sameNow]
def Di(ρ:Ren)(es:List<|AV×AV)(l:List MapEntry)(i:Nat):Option (Nat×AV)->Option (Nat×Value)->Prop
 |none,r=>r=none
 |some (j,x),r=>∃y q e,r=some (j,y)/\VR ρ x y/\i<=j/\es[j - i]? =some q/\l[j - i]? =some e/\VR ρ q.1 e.key/\q.2=x/\e.val=y
theorem Di.next{i:Nat}{p:AV×AV}{e:MapEntry}{r':Option<|Nat×Value}(h:Di ρ es l (i+1) r r'):Di ρ (p::es) (e::l) i r r':=by
 cases r with
 |none=>exact h
 |some q=>
  obtain⟨j,x⟩:=q;obtain⟨y,q,e2,h1,h2,h3,h4,h5,h6⟩:=h;refine⟨y,q,e2,h1,h2,by omega,?_,?_,h6⟩
  ·rw[show j - i=(j - (i+1))+1 from by omega];simpa using h4
  ·rw[show j - i=(j - (i+1))+1 from by omega];simpa using h5
theorem Rm{k:TypeId}{kd:TypeDesc}{key:AV}{v:Value}(hk:P.underlying k=some kd)(hp:plainKey P k key=true)(hv:VR ρ key v):∀{es:List<|AV×AV} {l:List MapEntry} {i:Nat} {r:Option<|Nat×AV},
 dM ρ es l->kI key es i=some r->∃r',Instr.findNow kd v l i=some r'/\Di ρ es l i r r'
 |[],l,i,r,he,h=>by
  have GM:l=[]:=he;subst GM;simp only[kI] at h;injection h with h;subst h
  exact⟨none,rfl,rfl⟩
 |(a,b)::es,l,i,r,he,h=>by
  obtain⟨e,l',rfl,h1,h2,h3⟩:=he;simp only[kI] at h;cases q:sameKey key a with
  |none=>rw[q] at h;cases h
  |some c=>
   have:=Ez hk hp q hv h1;cases c with
   |true=>
    simp only[q] at h;injection h with h;subst h
    exact⟨some (i,e.val),by simp only[Instr.findNow,this],e.val,(a,b),e,rfl,h2,Nat.le_refl _,by simp,by simp,h1,rfl,rfl⟩
   |false=>simp only[q] at h;obtain⟨r',g1,g2⟩:=Rm hk hp hv h3 h;exact⟨r',by simp only[Instr.findNow,this];exact g1,g2.next⟩
theorem Rs{k:TypeId}{key:AV}{v:Value}(hv:VR ρ key v):∀{es:List<|AV×AV} {l:List MapEntry} {i:Nat} {r:Option<|Nat×AV},
 dM ρ es l->EW P k key es i=some r->∃r',(Instr.findAsking k v l i).run P w= .ok r' w/\Di ρ es l i r r'
 |[],l,i,r,he,h=>by
  have GM:l=[]:=he;subst GM;simp only[EW] at h;injection h with h;subst h
  exact⟨none,rfl,rfl⟩
 |(a,b)::es,l,i,r,he,h=>by
  obtain⟨e,l',rfl,h1,h2,h3⟩:=he;simp only[EW] at h;cases q:mo P Op.maxDepth k key a with
  |none=>rw[q] at h;cases h
  |some c=>
   have hq:(Op.equal k v e.key).run P w= .ok c w:=Iz q hv h1;cases c with
   |true=>
    simp only[q] at h;injection h with h;subst h
    exact⟨some (i,e.val),by simp[Instr.findAsking,hq],e.val,(a,b),e,rfl,h2,Nat.le_refl _,by simp,by simp,h1,rfl,rfl⟩
   |false=>simp only[q] at h;obtain⟨r',g1,g2⟩:=Rs hv h3 h;exact⟨r',by simp[Instr.findAsking,hq,g1],g2.next⟩
theorem aex{k:IntKind}{n:Int}(ha:VR ρ a<|.int k n):a= .int k n:=by
 cases a<;>(try simp only[VR] at ha)<;>first|(cases ha;rfl)|(cases ha;done)|skip
 ·rename_i q;cases q<;>simp only[VR] at ha<;>first|(cases ha;done)|(obtain⟨_,_,_,e⟩:=ha;cases e)
 ·rename_i q l c;cases q with
  |none=>obtain⟨_,_,e⟩:=lJ ha;cases e
  |some q=>obtain⟨n,i⟩:=q;obtain⟨_,_,_,_,_,e⟩:=uF ha;cases e
 ·rcases ha with⟨_,_,_,_,e,_⟩|⟨_,_,_,_,e,_⟩<;>cases e
 ·obtain⟨_,_,_,e⟩:=ha;cases e
 ·rename_i q;cases q<;>simp only[VR] at ha<;>first|(cases ha;done)|(obtain⟨_,_,_,e⟩:=ha;cases e)
 ·obtain⟨_,_,_,e,_⟩:=ha;cases e
 ·obtain⟨_,_,_,e⟩:=ha;cases e
 ·obtain⟨_,e,_⟩:=ha;cases e
 ·obtain⟨_,e,_⟩:=ha;cases e
 ·obtain⟨_,e,_⟩:=ha;cases e
theorem aey{q:ByteArray}(hz:tZ a=true)(ha:VR ρ a<|.string q):a= .str q:=by
 cases a<;>(try cases hz;done)<;>(try simp only[VR] at ha)<;>first|(cases ha;rfl)|(cases ha;done)|skip
 ·rename_i q;cases q<;>simp only[VR] at ha<;>first|(cases ha;done)|(obtain⟨_,_,_,e⟩:=ha;cases e)
 ·rename_i q l c;cases q with
  |none=>obtain⟨_,_,e⟩:=lJ ha;cases e
  |some q=>obtain⟨n,i⟩:=q;obtain⟨_,_,_,_,_,e⟩:=uF ha;cases e
 ·rcases ha with⟨_,_,_,_,e,_⟩|⟨_,_,_,_,e,_⟩<;>cases e
 ·obtain⟨_,_,_,e⟩:=ha;cases e
 ·rename_i q;cases q<;>simp only[VR] at ha<;>first|(cases ha;done)|(obtain⟨_,_,_,e⟩:=ha;cases e)
 ·obtain⟨_,_,_,e,_⟩:=ha;cases e
 ·obtain⟨_,_,_,e⟩:=ha;cases e
 ·obtain⟨_,e,_⟩:=ha;cases e
 ·obtain⟨_,e,_⟩:=ha;cases e
 ·obtain⟨_,e,_⟩:=ha;cases e
theorem Uk{b:Bool}(ha:VR ρ a<|.bool b):a= .bool b:=by
 cases a<;>(try simp only[VR] at ha)<;>first|(cases ha;rfl)|(cases ha;done)|skip
 ·rename_i q;cases q<;>simp only[VR] at ha<;>first|(cases ha;done)|(obtain⟨_,_,_,e⟩:=ha;cases e)
 ·rename_i q l c;cases q with
  |none=>obtain⟨_,_,e⟩:=lJ ha;cases e
  |some q=>obtain⟨n,i⟩:=q;obtain⟨_,_,_,_,_,e⟩:=uF ha;cases e
 ·rcases ha with⟨_,_,_,_,e,_⟩|⟨_,_,_,_,e,_⟩<;>cases e
 ·obtain⟨_,_,_,e⟩:=ha;cases e
 ·rename_i q;cases q<;>simp only[VR] at ha<;>first|(cases ha;done)|(obtain⟨_,_,_,e⟩:=ha;cases e)
 ·obtain⟨_,_,_,e,_⟩:=ha;cases e
 ·obtain⟨_,_,_,e⟩:=ha;cases e
 ·obtain⟨_,e,_⟩:=ha;cases e
 ·obtain⟨_,e,_⟩:=ha;cases e
 ·obtain⟨_,e,_⟩:=ha;cases e
theorem abD(hk:P.underlying k=some kd)(hz:tZ key=true)(hp:plainKey P k key=false)(hv:VR ρ key v)(u:Value):Instr.sameNow kd v u=none:=by
 cases e:Instr.sameNow kd v u with
 |none=>rfl
 |some c=>
  exfalso;unfold Instr.sameNow at e;unfold plainKey at hp;rw[hk] at hp;split at e<;>first|(cases e;done)|skip
  ·rw[aex hv] at hp;cases hp
  ·rw[aey hz hv] at hp;cases hp
  ·rw[Uk hv] at hp;cases hp
theorem Vi{o:Option<|Option<|Nat×AV}(h:(match tZ key with|false=>none|true=>o)=some r):tZ key=true:=by
 cases hz:tZ key with
 |false=>rw[hz] at h;cases h
 |true=>rfl
theorem RH(hk:P.underlying k=some kd)(hv:VR ρ key v)(he:dM ρ es l)(h:findKey P k key es=some r):
 ∃r',(Instr.findKey k v l).run P w= .ok r' w/\Di ρ es l 0 r r':=by
 unfold findKey at h;cases hz:tZ key with
 |false=>rw[hz] at h;cases h
 |true=>
 simp only[hz] at h;cases hp:plainKey P k key with
 |true=>simp only[hp] at h;obtain⟨r',g1,g2⟩:=Rm hk hp hv he h;exact⟨r',MapKept.run_findKey hk g1,g2⟩
 |false=>
  simp only[hp] at h;obtain⟨r',g1,g2⟩:=Rs (P:=P) (w:=w) hv he h;refine⟨r',?_,g2⟩;cases l with
  |nil=>
   have BK:Result.ok none w=Result.ok r' w:=g1;injection BK with BK;subst BK
   exact MapKept.run_findKey hk rfl
  |cons e l=>
   have:Instr.findNow kd v (e::l) 0=none:=by simp only[Instr.findNow,abD hk hz hp hv e.key]
   simp only[Instr.findKey,Sem.run_bind,dm hk,Result.andThen_ok,this];exact g1
theorem Lu:∀{es:List<|AV×AV} {i:Nat},kI key es i=some none->∀p∈es,sameKey key p.1=some false
 |[],_,_,p,hp=>by cases hp
 |(a,b)::es,i,h,p,hp=>by
  simp only[kI] at h;cases q:sameKey key a with
  |none=>rw[q] at h;cases h
  |some c=>
   cases c with
   |true=>simp only[q] at h;cases h
   |false=>
    simp only[q] at h;rcases List.mem_cons.1 hp with rfl|hp
    ·exact q
    ·exact Lu h p hp
theorem Rh{key:AV}:∀{es:List<|AV×AV} {i j:Nat} {x:AV},kI key es i=some (some (j,x))->i<=j/\∃q,es[j - i]? =some q/\q.2=x/\sameKey key q.1=some true
 |[],_,_,_,h=>by simp[kI] at h
 |(a,b)::es,i,j,x,h=>by
  simp only[kI] at h;cases q:sameKey key a with
  |none=>rw[q] at h;cases h
  |some c=>
   cases c with
   |true=>
    simp only[q] at h;injection h with h;injection h with h;injection h with h1 h2;subst h1;subst h2
    exact⟨Nat.le_refl _,(a,b),by simp,rfl,q⟩
   |false=>simp only[q] at h;obtain⟨h1,p,h2,h3⟩:=Rh h;refine⟨by omega,p,?_,h3⟩;rw[show j - i=(j - (i+1))+1 from by omega];simpa using h2
end
end Go.Rn
namespace Go.Rn
open Go.RowKit
variable {v u:Value} {a b key:AV} {l l':List MapEntry} {es:List<|AV×AV} {ty:TypeId} {kd:TypeDesc}
theorem Lz(h:sameKey a b=some true)(c:AV):sameKey a c=sameKey b c:=by
 unfold sameKey at h;split at h<;>first|(cases h;done)|skip
 ·rename_i k x k' y;cases hk:decide (k=k') with
  |false=>rw[hk] at h;cases h
  |true=>
   rw[hk] at h;injection h with h
   have e1:=of_decide_eq_true hk;have e2:x=y:=by simpa using h
   rw[e1,e2]
 ·rename_i x y;injection h with h
  rw[bytes_beq] at h;have e:x.toList=y.toList:=by simpa using h
  cases c<;>first|rfl|simp only[sameKey,bytes_beq,e]
 ·rename_i x y;injection h with h
  have e:x=y:=by simpa using h
  rw[e]
theorem LB(a b:AV):sameKey a b=sameKey b a:=by
 cases a<;>cases b<;>first|rfl|skip
 ·rename_i x y;cases x<;>cases y<;>rfl
 ·rename_i k x k' y;by_cases e:k=k'
  ·subst e;show(match decide (k=k) with|true=>some (x == y)|false=>none)=(match decide (k=k) with|true=>some (y == x)|false=>none);rw[decide_eq_true (rfl:k=k)];show some (x == y)=some (y == x);rw[BEq.comm]
  ·show(match decide (k=k') with|true=>some (x == y)|false=>none)=(match decide (k'=k) with|true=>some (y == x)|false=>none);rw[decide_eq_false e,decide_eq_false<|Ne.symm e]
 ·rename_i x y;show some (x == y)=some (y == x);rw[bytes_beq,bytes_beq,BEq.comm]
theorem lp.at{es:List<|AV×AV}(h:lp es){i j:Nat}{p q:AV×AV}(hi:es[i]? =some p)(hj:es[j]? =some q)(cf:i≠j):sameKey p.1 q.1=some false:=by
 unfold lp at h;rw[List.pairwise_iff_getElem] at h;obtain⟨li,ei⟩:=List.getElem?_eq_some_iff.1 hi;obtain⟨lj,ej⟩:=List.getElem?_eq_some_iff.1 hj;rcases Nat.lt_or_ge i j with q'|q'
 ·have:=(h i j li lj q').1;rw[ei,ej] at this;exact this
 ·have:=(h j i lj li aj).2;rw[ei,ej] at this;exact this
theorem LV{ρ:Ren}(h:sameKey a b=some true)(ha:VR ρ a v)(hb:VR ρ b u)(m:Nat):Instr.sameBits m v u=true:=by
 unfold sameKey at h;split at h<;>first|(cases h;done)|skip
 ·rename_i k x k' y;cases hk:decide (k=k') with
  |false=>rw[hk] at h;cases h
  |true=>
   rw[hk] at h;injection h with h
   simp only[VR] at ha hb;subst ha;subst hb;have e1:=of_decide_eq_true hk;subst e1;cases m<;>simpa[Instr.sameBits] using h
 ·injection h with h
  simp only[VR] at ha hb;subst ha;subst hb;cases m<;>simpa[Instr.sameBits] using h
 ·injection h with h
  simp only[VR] at ha hb;subst ha;subst hb;cases m<;>simpa[Instr.sameBits] using h
theorem RI{ρ:Ren}(m:Nat):∀{xs ys:List AV} {vs us:List Value},CG xs ys=true->ay ρ xs vs->ay ρ ys us->vs.length=us.length/\((vs.zip us).all fun(x,y)=>Instr.sameBits m x y)=true
 |[],[],vs,us,_,h1,h2=>by simp only[ay] at h1 h2;subst h1;subst h2;simp
 |[],_::_,_,_,h,_,_=>by simp[CG] at h
 |_::_,[],_,_,h,_,_=>by simp[CG] at h
 |x::xs,y::ys,vs,us,h,h1,h2=>by
  simp only[ay] at h1 h2;obtain⟨v,vs,rfl,a1,b1⟩:=h1;obtain⟨u,us,rfl,a2,b2⟩:=h2;simp only[CG] at h;cases e:sameKey x y with
  |none=>rw[e] at h;cases h
  |some c=>
   cases c with
   |false=>rw[e] at h;cases h
   |true=>rw[e] at h;obtain⟨p,q⟩:=RI m h b1 b2;exact⟨by simp[p],by simp only[List.zip_cons_cons,List.all_cons,LV e a1 a2 m,Bool.true_and];exact q⟩
theorem Y8{ρ:Ren}(h:sameBits a b=true)(ha:VR ρ a v)(hb:VR ρ b u)(m:Nat):Instr.sameBits (m+1) v u=true:=by
 unfold sameBits at h;split at h
 ·rename_i xs ys;simp only[VR] at ha hb;obtain⟨vs,rfl,h1⟩:=ha;obtain⟨us,rfl,h2⟩:=hb;obtain⟨p,q⟩:=RI m h h1 h2;simp only[Instr.sameBits,Bool.and_eq_true,beq_iff_eq];exact⟨by simpa using p,q⟩
 ·split at h
  ·rename_i e;exact LV e ha hb _
  ·cases h
theorem SC{P:Program}{w:World}(h:Instr.sameBits 10000 v u=true):(Instr.keyThatStays v u).run P w= .ok u w:=by simp[Instr.keyThatStays,h]
theorem Rt:∀{l:List MapEntry} {i:Nat},(∀e∈l,Instr.sameNow kd v e.key=some false)->Instr.findNow kd v l i=some none
 |[],_,_=>rfl
 |e::l,i,h=>by simp only[Instr.findNow,h e List.mem_cons_self];exact Rt fun e he=>h e<|List.mem_cons_of_mem _ he
theorem Ru{kd:TypeDesc}{v:Value}:∀{l:List MapEntry} {i:Nat},(∀e∈l,∃c,Instr.sameNow kd v e.key=some c)->(∃e∈l,Instr.sameNow kd v e.key=some true)->
 ∃j e,l[j]? =some e/\Instr.sameNow kd v e.key=some true/\Instr.findNow kd v l i=some (some (i+j,e.val))
 |[],_,_,h=>by obtain⟨_,h,_⟩:=h;cases h
 |e::l,i,h,k=>by
  obtain⟨c,hc⟩:=h e List.mem_cons_self;cases c with
  |true=>exact⟨0,e,rfl,hc,by simp only[Instr.findNow,hc,Nat.add_zero]⟩
  |false=>
   obtain⟨e2,h2,h3⟩:=k;have rP:e2∈l:=by
    rcases List.mem_cons.1 h2 with rfl|h2
    ·rw[hc] at h3;cases h3
    ·exact h2
   obtain⟨j,e3,g1,g2,g3⟩:=Ru (i:=i+1) (fun e he=>h e<|List.mem_cons_of_mem _ he) ⟨e2,rP,h3⟩;exact⟨j+1,e3,by simpa using g1,g2,by simp only[Instr.findNow,hc];rw[g3];congr 3;omega⟩
section
variable {P:Program} {B:aJ} {ρ:Ren} {w:World} {s s1:AS} {x:AV} {YG:aK} {t:Tr AV} {ev:Operand->Value} {o:Oper}
theorem dM.get:∀{es:List<|AV×AV} {l:List MapEntry} {i:Nat} {e:MapEntry},dM ρ es l->l[i]? =some e->∃p,es[i]? =some p/\VR ρ p.1 e.key/\VR ρ p.2 e.val
 |[],l,i,e,h,k=>by have h':l=[]:=h;subst h';simp at k
 |p::es,l,i,e,h,k=>by
  obtain⟨e2,l2,rfl,h1,h2,h3⟩:=h;cases i with
  |zero=>simp at k;subst k;exact⟨p,rfl,h1,h2⟩
  |succ i=>simp at k;obtain⟨q,g1,g2⟩:=h3.get k;exact⟨q,by simpa using g1,g2⟩
theorem dM.get'{i:Nat}{p:AV×AV}(h:dM ρ es l)(k:es[i]? =some p):∃e,l[i]? =some e/\VR ρ p.1 e.key/\VR ρ p.2 e.val:=by obtain⟨li,ei⟩:=List.getElem?_eq_some_iff.1 k;have hl:=h.length;have hi:l[i]? =some (l[i]'aj):=List.getElem?_eq_getElem _;obtain⟨q,g1,g2⟩:=h.get hi;rw[k] at g1;cases g1;exact⟨_,hi,g2⟩
theorem RJ{k:TypeId}{r:Option<|Nat×AV}(hk:P.underlying k=some kd)(hp:plainKey P k key=true)(hv:VR ρ key v)(ka:lp es)(he:dM ρ es l')(hl:l.Perm l')(h:kI key es 0=some r):
 (r=none->Instr.findNow kd v l 0=some none)/\(∀j y,r=some (j,y)->∃j' e,Instr.findNow kd v l 0=some (some (j',e.val))/\l[j']? =some e/\l'[j]? =some e/\VR ρ y e.val/\∃p,es[j]? =some p/\sameKey key p.1=some true):=by
 have ak:∀e∈l,∃(j:Nat) (p:AV×AV),l'[j]? =some e/\es[j]? =some p/\VR ρ p.1 e.key/\VR ρ p.2 e.val:=by
  intro e hm;obtain⟨j,hj,e1⟩:=List.getElem_of_mem<|hl.mem_iff.1 hm;have rQ:l'[j]? =some e:=by rw[List.getElem?_eq_getElem hj,e1]
  obtain⟨p,g1,g2,g3⟩:=he.get rQ;exact⟨j,p,rQ,g1,g2,g3⟩
 constructor
 ·intro hr;subst hr;refine Rt fun e hm=>?_;obtain⟨j,p,g1,g2,g3,g4⟩:=ak e hm;exact Ez hk hp (Lu h p<|List.mem_of_getElem? g2) hv g3
 ·intro j y hr;subst hr;obtain⟨_,q,h1,h2,h3⟩:=Rh h;rw[Nat.sub_zero] at h1;have all:∀e∈l,∃(j2:Nat) (p:AV×AV),l'[j2]? =some e/\es[j2]? =some p/\VR ρ p.2 e.val/\Instr.sameNow kd v e.key=some (decide<|j2=j):=by
   intro e hm;obtain⟨j2,p,g1,g2,g3,g4⟩:=ak e hm;refine⟨j2,p,g1,g2,g4,?_⟩;by_cases e2:j2=j
   ·subst e2;rw[h1] at g2;cases g2;simp only[decide_true];exact Ez hk hp h3 hv g3
   ·rw[decide_eq_false e2];refine Ez hk hp ?_ hv g3;rw[Lz h3];exact ka.at h1 g2<|Ne.symm e2
  obtain⟨e0,g1,g2,g3⟩:=he.get' h1;have zH:e0∈l:=hl.mem_iff.2<|List.mem_of_getElem? g1;obtain⟨j',e,f1,f2,f3⟩:=Ru (kd:=kd) (v:=v) (l:=l) (i:=0) (fun e hm=>let ⟨_,_,_,_,_,h⟩:=all e hm;⟨_,h⟩) ⟨e0,zH,Ez hk hp h3 hv g2⟩;rw[Nat.zero_add] at f3;obtain⟨j2,p,a1,a2,a3,a4⟩:=all e<|List.mem_of_getElem? f1;rw[f2] at a4;injection a4 with a4
  have e2:j2=j:=by simpa using a4.symm
  subst e2;rw[h1] at a2;cases a2;exact⟨j',e,f3,f1,a1,by rw[←h2];exact a3,q,h1,h3⟩
theorem ZL(h:short es=true)(he:dM ρ es l')(hl:l.Perm l'):dM ρ es l:=by
 have hlen:=he.length;unfold short at h;split at h<;>first|(cases h;done)|skip
 ·have:l'=[]:=by cases l'<;>first|rfl|simp at hlen
  subst this;rw[List.perm_nil.1 hl];exact he
 ·match l',hlen,hl,he with
  |[e],_,hl,he=>rw[List.perm_singleton.1 hl];exact he
theorem VR.zF{ok b:Bool}{y:AV}{v:Value}(h:VR ρ y v):VR ρ (zF ok y b) (if ok=true then .tuple #[v,.bool b] else v):=by
 cases ok with
 |false=>exact h
 |true=>simp only[Rn.zF,if_true,VR,ay];exact⟨_,rfl,v,_,rfl,h,.bool b,_,rfl,rfl,rfl⟩
theorem LW:∀{d:Nat} {k:TypeId} {key:AV},ox P d k key=true->∃kd,P.underlying k=some kd
 |0,_,_,h=>by simp only[ox] at h;cases h
 |d+1,k,key,h=>by
  simp only[ox] at h;cases q:P.underlying k with
  |none=>rw[q] at h;cases h
  |some kd=>exact⟨kd,rfl⟩
theorem Zj{ok:Bool}{va vk:Value}(ha:VR ρ a va)(pH:VR ρ key vk)(fi:bB s)(r:Rel B ρ s.h w)(h:yH P ty a key ok s= .ok x s1):
 jT P B ρ s s1 w x (Instr.lookup ty va vk ok):=by
 unfold yH at h;cases e1:P.underlying ty with
 |none=>simp only[e1] at h;cases h
 |some d=>
  cases d<;>simp only[e1] at h<;>first|(cases h;done)|skip
  rename_i k e;obtain⟨es,s2,h1,h2⟩:=M.aN h;obtain⟨h3,h4⟩:=cV h2;obtain⟨f,h5,h6⟩:=bu h4;have rR:∃kd,P.underlying k=some kd:=by exact LW h3
  obtain⟨kd,rR⟩:=rR;have vW:∀em,(Instr.checkKey em 10000 k vk).run P w= .ok () w:=fun em=>HO h3 pH;have main:∃l:Array MapEntry,((va= .map none/\l= #[])\/∃b bp,va= .map (some b)/\w.heap[b]? =some (.map l bp))/\s2.h=s.h/\s2.nx=s.nx/\
   ∃r',(Instr.findKey k vk l.toList).run P w= .ok r' w/\(f=none->r'=none)/\(∀j y,f=some (j,y)->∃j' z,r'=some (j',z)/\VR ρ y z):=by
   have exact:∀l:Array MapEntry,dM ρ es l.toList->∃r',(Instr.findKey k vk l.toList).run P w= .ok r' w/\(f=none->r'=none)/\(∀j y,f=some (j,y)->∃j' z,r'=some (j',z)/\VR ρ y z):=by intro l he;obtain⟨r',g1,g2⟩:=RH (P:=P) (w:=w) rR pH he h5;refine⟨r',g1,fun q=>by subst q;exact g2,fun j y q=>?_⟩;subst q;obtain⟨z,_,_,q1,q2,_⟩:=g2;exact⟨j,z,q1,q2⟩
   unfold yN at h1;split at h1
   ·obtain⟨rfl,rfl⟩:=bA h1;simp only[VR] at ha;subst ha;exact⟨#[],.inl ⟨rfl,rfl⟩,rfl,rfl,exact #[] rfl⟩
   ·rename_i m;obtain⟨ob,s3,h7,h8⟩:=M.aN h1;obtain⟨hx,hg,hh,cr⟩:=fU h7;have ht:m<top:=Nat.lt_of_lt_of_le hx fi.nx;simp only[VR] at ha;obtain⟨b,N,hm,rfl⟩:=ha;obtain⟨o',hb,hO,_⟩:=r.block ht hg hm;cases ob with
    |map gY bp=>obtain⟨rfl,rfl⟩:=bA h8;obtain⟨l,rfl,_,q⟩:=hO;exact⟨l,.inr ⟨b,bp,rfl,hb⟩,hh,cr,exact l q.eqs⟩
    |lq gY=>
     obtain⟨h9,gE⟩:=cV h8;obtain⟨rfl,rfl⟩:=bA gE;obtain⟨l,bp,rfl,ka,_,l',hp,he⟩:=hO;refine⟨l,.inr ⟨b,bp,rfl,hb⟩,hh,cr,?_⟩;cases q:plainKey P k key with
     |false=>rw[q] at h9;exact exact l<|ZL h9 he hp
     |true=>
      unfold findKey at h5;have hz:tZ _=true:=Vi h5;simp only[hz] at h5;simp only[q] at h5;obtain⟨g1,g2⟩:=RJ rR q pH ka he hp h5;cases f with
      |none=>exact⟨none,MapKept.run_findKey rR<|g1 rfl,(fun _=>rfl),(fun j y e=>by cases e)⟩
      |some p=>obtain⟨j,y⟩:=p;obtain⟨j',e,f1,_,_,f2,_⟩:=g2 j y rfl;exact⟨some (j',e.val),MapKept.run_findKey rR f1,(fun e=>by cases e),(fun j y e2=>by cases e2;exact⟨j',_,rfl,f2⟩)⟩
    |_=>cases h8
   ·cases h1
  obtain⟨l,m1,m2,m3,r',m4,m5,m6⟩:=main;cases f with
  |some p=>
   obtain⟨j,y⟩:=p;obtain⟨rfl,rfl⟩:=bA h6;obtain⟨j',z,rfl,hz⟩:=m6 j y rfl;refine⟨ρ,w,_,by rw[m3];exact Ext.refl _ _ _,?_,hz.zF,by rw[m2];exact r,cw.refl _ _⟩;rcases m1 with⟨rfl,rfl⟩|⟨b,bp,rfl,hb⟩
   ·simp only[Instr.lookup,Sem.run_bind,dm e1,Result.andThen_ok,vW,m4,Sem.run_pure]
   ·simp only[Instr.lookup,Sem.run_bind,dm e1,Result.andThen_ok,MapKept.run_getObj_map hb,vW,m4,Sem.run_pure]
  |none=>
   obtain⟨z,h7,h8⟩:=bu h6;obtain⟨rfl,rfl⟩:=bA h8;have:=m5 rfl;subst this;obtain⟨vz,g1,g2⟩:=Hy (P:=P) (w:=w) ρ h7;refine⟨ρ,w,_,by rw[m3];exact Ext.refl _ _ _,?_,g2.zF,by rw[m2];exact r,cw.refl _ _⟩;rcases m1 with⟨rfl,rfl⟩|⟨b,bp,rfl,hb⟩
   ·simp only[Instr.lookup,Sem.run_bind,dm e1,Result.andThen_ok,vW,m4,Sem.run_pure,g1]
   ·simp only[Instr.lookup,Sem.run_bind,dm e1,Result.andThen_ok,MapKept.run_getObj_map hb,vW,m4,Sem.run_pure,g1]
theorem Zk{y z:Operand}{ok:Bool}(he:∀x v,aH t x=some v->VR ρ v (ev x))(fi:bB s)(r:Rel B ρ s.h w)(h:wR P ty y z ok YG t s= .ok x s1)(ho:o.op= .lookup ty y z ok):gf P B ρ s s1 w x<|execOp ev o:=by unfold wR at h;obtain⟨a,h1,h2⟩:=bu h;obtain⟨b,h3,h4⟩:=bu h2;have:=(Zj (P:=P) (he y a h1) (he z b h3) fi r h4).op;simpa only[execOp,ho] using this
end
end Go.Rn
namespace Go.Rn
open Go.RowKit
variable {key:AV} {vv vk:Value} {es:List<|AV×AV} {e:MapEntry} {ty:TypeId} {l:List MapEntry} {i bp:Nat}
theorem SD:∀(es:List<|AV×AV) (i j:Nat) (k v:AV),(putAt es i k v)[j]? =if j=i then(es[j]?).map (fun _=>(k,v)) else es[j]?
 |[],i,j,k,v=>by simp[putAt]
 |p::es,0,j,k,v=>by cases j<;>simp[putAt]
 |p::es,i+1,j,k,v=>by
  cases j with
  |zero=>simp[putAt]
  |succ j=>simp[putAt,SD es i j k v]
theorem Rv:∀(es:List<|AV×AV) (i:Nat) (k v:AV),(putAt es i k v).length=es.length
 |[],_,_,_=>rfl
 |_::_,0,_,_=>rfl
 |_::es,i+1,k,v=>by simp[putAt,Rv es i k v]
def qV(k v:Value)(e:MapEntry):MapEntry:={e with key:=k,val:=v}
theorem jY.put{ρ:Ren}{val:AV}(hk:VR ρ key vk)(hv:VR ρ val vv):∀{es:List<|AV×AV} {l:List MapEntry} {n i:Nat},jY ρ es l n->jY ρ (putAt es i key val) (l.modify i<|qV vk vv) n
 |[],l,n,i,h=>by have h':l=[]:=h;subst h';cases i<;>rfl
 |p::es,l,n,0,h=>by obtain⟨e,l',rfl,a,b,c,d⟩:=h;exact⟨qV vk vv e,l',rfl,hk,hv,c,d⟩
 |p::es,l,n,i+1,h=>by obtain⟨e,l',rfl,a,b,c,d⟩:=h;exact⟨e,l'.modify i<|qV vk vv,rfl,a,b,c,d.put hk hv⟩
theorem dM.put{ρ:Ren}{val:AV}(hk:VR ρ key vk)(hv:VR ρ val vv):∀{es:List<|AV×AV} {l:List MapEntry} {i:Nat},dM ρ es l->dM ρ (putAt es i key val) (l.modify i<|qV vk vv)
 |[],l,i,h=>by have h':l=[]:=h;subst h';cases i<;>rfl
 |p::es,l,0,h=>by obtain⟨e,l',rfl,a,b,d⟩:=h;exact⟨qV vk vv e,l',rfl,hk,hv,d⟩
 |p::es,l,i+1,h=>by obtain⟨e,l',rfl,a,b,d⟩:=h;exact⟨e,l'.modify i<|qV vk vv,rfl,a,b,d.put hk hv⟩
theorem jY.push{ρ:Ren}{val:AV}(hk:VR ρ key e.key)(hv:VR ρ val e.val):∀{es:List<|AV×AV} {l:List MapEntry} {n:Nat},jY ρ es l n->e.born=n+es.length->jY ρ (es++[(key,val)]) (l++[e]) n
 |[],l,n,h,hb=>by have h':l=[]:=h;subst h';exact⟨e,[],rfl,hk,hv,hb,rfl⟩
 |p::es,l,n,h,hb=>by obtain⟨e2,l',rfl,a,b,c,d⟩:=h;exact⟨e2,l'++[e],rfl,a,b,c,d.push hk hv (by simp at hb;omega)⟩
theorem dM.push{ρ:Ren}{val:AV}(hk:VR ρ key e.key)(hv:VR ρ val e.val):∀{es:List<|AV×AV} {l:List MapEntry},dM ρ es l->dM ρ (es++[(key,val)]) (l++[e])
 |[],l,h=>by have h':l=[]:=h;subst h';exact⟨e,[],rfl,hk,hv,rfl⟩
 |p::es,l,h=>by obtain⟨e2,l',rfl,a,b,d⟩:=h;exact⟨e2,l'++[e],rfl,a,b,d.push hk hv⟩
theorem lp.of(h:∀(i j:Nat) (p q:AV×AV),i≠j->es[i]? =some p->es[j]? =some q->sameKey p.1 q.1=some false):lp es:=by unfold lp;rw[List.pairwise_iff_getElem];intro i j hi hj lD;exact⟨h i j _ _ aj (List.getElem?_eq_getElem hi)<|List.getElem?_eq_getElem hj,h j i _ _ aj (List.getElem?_eq_getElem hj)<|List.getElem?_eq_getElem hi⟩
theorem lp.put(h:lp es){p:AV×AV}{val:AV}(hi:es[i]? =some p)(hk:sameKey key p.1=some true):lp<|putAt es i key val:=by
 refine lp.of fun j k a b hjk ha hb=>?_;rw[SD] at ha hb;by_cases e1:j=i
 ·have e2:k≠i:=by omega
  rw[if_pos e1,e1,hi] at ha;rw[if_neg e2] at hb;simp only[Option.map_some,Option.some.injEq] at ha;rw[←ha];show sameKey key b.1=some false;rw[Lz hk];exact h.at hi hb<|Ne.symm e2
 ·rw[if_neg e1] at ha;by_cases e2:k=i
  ·rw[if_pos e2,e2,hi] at hb;simp only[Option.map_some,Option.some.injEq] at hb;rw[←hb];show sameKey a.1 key=some false;rw[LB,Lz hk];exact h.at hi ha<|Ne.symm e1
  ·rw[if_neg e2] at hb;exact h.at ha hb hjk
theorem lp.push(h:lp es){val:AV}(hk:∀p∈es,sameKey key p.1=some false):lp<|es++[(key,val)]:=by unfold lp at h ⊢;rw[List.pairwise_append];refine⟨h,by simp,fun a ha b hb=>?_⟩;simp only[List.mem_singleton] at hb;subst hb;exact⟨by rw[LB];exact hk a ha,hk a ha⟩
theorem MT{α:Type}(f:α->α):∀{l:List α} {j:Nat} {e:α},l[j]? =some e->l.Perm (e::l.eraseIdx j)/\(l.modify j f).Perm (f e::l.eraseIdx j)
 |[],j,e,h=>by simp at h
 |a::l,0,e,h=>by simp at h;subst h;exact⟨List.Perm.refl _,List.Perm.refl _⟩
 |a::l,j+1,e,h=>by
  simp at h;obtain⟨p,q⟩:=MT f h;refine⟨?_,?_⟩
  ·exact(p.cons a).trans<|List.Perm.swap _ _ _
  ·rw[List.modify_succ_cons];exact(q.cons a).trans<|List.Perm.swap _ _ _
theorem aas{α:Type}(f:α->α){l l':List α}{j:Nat}{e:α}(hl:l.Perm l')(hi:l[i]? =some e)(hj:l'[j]? =some e):(l.modify i f).Perm<|l'.modify j f:=by obtain⟨p,q⟩:=MT f hi;obtain⟨p',q'⟩:=MT f hj;have:=((p.symm.trans hl).trans p').cons_inv;exact(q.trans<|this.cons _).trans q'.symm
theorem LK(k v:Value):∀(l:List MapEntry) (i:Nat),(l.modify i<|qV k v).map (·.born)=l.map (·.born)
 |[],i=>by cases i<;>rfl
 |e::l,0=>rfl
 |e::l,i+1=>by rw[List.modify_succ_cons];simp[LK k v l i]
theorem sL.modify(h:sL l bp)(k v:Value)(i:Nat):sL (l.modify i<|qV k v) bp:=by refine⟨by rw[LK];exact h.1,fun e he=>?_⟩;have:e.born∈(l.modify i<|qV k v).map (·.born):=List.mem_map_of_mem he;rw[LK] at this;obtain⟨e2,h2,h3⟩:=List.mem_map.1 this;rw[←h3];exact h.2 e2 h2
theorem sL.push(h:sL l bp)(he:e.born=bp):sL (l++[e])<|bp+1:=by
 refine⟨?_,fun e2 h2=>?_⟩
 ·rw[List.map_append,List.nodup_append];refine⟨h.1,by simp,fun a ha b hb=>?_⟩;simp only[List.map_cons,List.map_nil,List.mem_singleton] at hb;obtain⟨e2,h2,h3⟩:=List.mem_map.1 ha;have:=h.2 e2 h2;omega
 ·rcases List.mem_append.1 h2 with h2|h2
  ·have:=h.2 e2 h2;omega
  ·simp only[List.mem_singleton] at h2;subst h2;omega
section
variable {P:Program} {B:aJ} {ρ:Ren} {w:World} {s s1:AS} {x:AV} {YG:aK} {t:Tr AV} {ev:Operand->Value} {o:Oper}
theorem Cm{w:World}{b:Nat}{o o':Obj}(hb:w.heap[b]? =some o):
 uU b w {w with heap:=w.heap.setIfInBounds b o'}/\({w with heap:=w.heap.setIfInBounds b o'}:World).heap[b]? =some o':=by
 refine⟨⟨rfl,rfl,rfl,by simp,fun k hk=>?_⟩,?_⟩
 ·show(w.heap.setIfInBounds b o')[k]? =w.heap[k]?;rw[Array.getElem?_setIfInBounds_ne aj]
 ·show(w.heap.setIfInBounds b o')[b]? =some o';exact Array.getElem?_setIfInBounds_self_of_lt<|ib hb
theorem ZM{m val:AV}{vm:Value}{u:Unit}(hm:VR ρ m vm)(pH:VR ρ key vk)(eT:VR ρ val vv)(fi:bB s)(r:Rel B ρ s.h w)(h:xd P ty m key val s= .ok u s1):
 s1.nx=s.nx/\∃w',(Instr.mapUpdate ty vm vk vv).run P w= .ok () w'/\Rel B ρ s1.h w'/\cw B w w':=by
 unfold xd at h;cases e1:P.underlying ty with
 |none=>simp only[e1] at h;cases h
 |some d=>
  cases d<;>simp only[e1] at h<;>first|(cases h;done)|skip
  rename_i k e;cases m<;>first|(cases h;done)|skip
  rename_i q;cases q with
  |none=>cases h
  |some n=>
   simp only[VR] at hm;obtain⟨b,N,hn,rfl⟩:=hm;obtain⟨ob,s2,h1,h2⟩:=M.aN h;obtain⟨hx,hg,hh,cr⟩:=fU h1;have ht:n<top:=Nat.lt_of_lt_of_le hx fi.nx;obtain⟨o',hb,hO,hB⟩:=r.block ht hg hn;cases ob with
   |map es bp=>
    obtain⟨h3,h4⟩:=cV h2;obtain⟨f,h5,h6⟩:=bu h4;obtain⟨l,rfl,CV,he⟩:=hO;obtain⟨kd,rR⟩:=LW h3;have vW:∀em,(Instr.checkKey em 10000 k vk).run P w= .ok () w:=fun em=>HO h3 pH;obtain⟨r',g1,g2⟩:=RH (P:=P) (w:=w) rR pH he.eqs h5;cases f with
    |some p=>
     obtain⟨j,y⟩:=p;obtain⟨z,q,e0,rfl,_,_,q1,q2,q3,_,_⟩:=g2;rw[Nat.sub_zero] at q1 q2;obtain⟨dy,h7,h8⟩:=bu (show(aB es[j]? fun dy=>aG (sameBits dy.1 key) <| bJ n<|some<|.map (putAt es j key val) bp) s2= .ok u s1 from h6);obtain⟨h9,gE⟩:=cV h8;rw[q1] at h7;cases h7;have OW:=Y8 h9 q3 pH 9999;obtain⟨_,_,_,i1,i2⟩:=jx gE;obtain⟨g3,g4⟩:=Cm (o':=.map (l.modify j<|qV vk vv) bp) hb;refine⟨by rw[i2,cr],_,?_,?_,g3.below<|hB rfl⟩
     ·have hl:l[j]? =some e0:=by simpa using q2
      simp only[Instr.mapUpdate,Sem.run_bind,dm e1,Result.andThen_ok,MapKept.run_getObj_map hb,vW,g1,hl,Option.map_some,Option.getD_some,SC OW,MapKept.run_setObj_map _ hb];rfl
     ·rw[i1,hh];refine r.put ht hg rfl rfl hn rfl g3 g4 ⟨_,rfl,by rw[Rv];exact CV,?_⟩;rw[Array.toList_modify];exact he.put pH eT
    |none=>
     have zI:r'=none:=g2;subst zI;obtain⟨_,_,_,i1,i2⟩:=jx (show bJ n (some<|.map (es++[(key,val)])<|bp+1) s2= .ok u s1 from h6);obtain⟨g3,g4⟩:=Cm (o':=.map (l.push {key:=vk,val:=vv,born:=bp})<|bp+1) hb;refine⟨by rw[i2,cr],_,?_,?_,g3.below<|hB rfl⟩
     ·simp only[Instr.mapUpdate,Sem.run_bind,dm e1,Result.andThen_ok,MapKept.run_getObj_map hb,vW,g1,MapKept.run_setObj_map _ hb]
     ·rw[i1,hh];refine r.put ht hg rfl rfl hn rfl g3 g4 ⟨_,rfl,by simp[CV],?_⟩;rw[Array.toList_push];exact he.push pH eT (by simp[CV])
   |lq es=>
    obtain⟨h3,h4⟩:=cV h2;obtain⟨f,h5,h6⟩:=bu h4;obtain⟨hp,Xr⟩:=and_true.1 h3;obtain⟨l,bp,rfl,ka,zJ,l',hl,he⟩:=hO;obtain⟨kd,rR⟩:=LW Xr;have vW:∀em,(Instr.checkKey em 10000 k vk).run P w= .ok () w:=fun em=>HO Xr pH;unfold findKey at h5;have hz:tZ _=true:=Vi h5;simp only[hz] at h5;simp only[hp] at h5;obtain⟨f1,f2⟩:=RJ rR hp pH ka he hl h5;cases f with
    |some p=>
     obtain⟨j,y⟩:=p;obtain⟨j',e0,a1,a2,a3,a4,q,a5,a6⟩:=f2 j y rfl;obtain⟨_,_,_,i1,i2⟩:=jx (show bJ n (some<|.lq<|putAt es j key val) s2= .ok u s1 from h6);obtain⟨g3,g4⟩:=Cm (o':=.map (l.modify j'<|qV vk vv) bp) hb;have hq:VR ρ q.1 e0.key:=by obtain⟨q',b1,b2,_⟩:=he.get a3;rw[a5] at b1;cases b1;exact b2
     have OW:Instr.sameBits 10000 e0.key vk=true:=LV (by rw[LB];exact a6) hq pH 10000;refine⟨by rw[i2,cr],_,?_,?_,g3.below<|hB rfl⟩
     ·have yc:l[j']? =some e0:=by simpa using a2
      simp only[Instr.mapUpdate,Sem.run_bind,dm e1,Result.andThen_ok,MapKept.run_getObj_map hb,vW,MapKept.run_findKey rR a1,yc,Option.map_some,Option.getD_some,SC OW,MapKept.run_setObj_map _ hb];rfl
     ·rw[i1,hh];refine r.put ht hg rfl rfl hn rfl g3 g4 ⟨_,_,rfl,ka.put a5 a6,?_,l'.modify j<|qV vk vv,?_,he.put pH eT⟩
      ·rw[Array.toList_modify];exact zJ.modify _ _ _
      ·rw[Array.toList_modify];exact aas _ hl a2 a3
    |none=>
     obtain⟨_,_,_,i1,i2⟩:=jx (show bJ n (some<|.lq<|es++[(key,val)]) s2= .ok u s1 from h6);obtain⟨g3,g4⟩:=Cm (o':=.map (l.push {key:=vk,val:=vv,born:=bp})<|bp+1) hb;refine⟨by rw[i2,cr],_,?_,?_,g3.below<|hB rfl⟩
     ·simp only[Instr.mapUpdate,Sem.run_bind,dm e1,Result.andThen_ok,MapKept.run_getObj_map hb,vW,MapKept.run_findKey rR<|f1 rfl,MapKept.run_setObj_map _ hb]
     ·rw[i1,hh];refine r.put ht hg rfl rfl hn rfl g3 g4 ⟨_,_,rfl,ka.push<|Lu h5,?_,l'++[{key:=vk,val:=vv,born:=bp}],?_,dM.push (e:={key:=vk,val:=vv,born:=bp}) pH eT he⟩
      ·rw[Array.toList_push];exact zJ.push rfl
      ·rw[Array.toList_push];exact hl.append_right _
   |_=>cases h2
theorem RK{a b c:Operand}(he:∀x v,aH t x=some v->VR ρ v (ev x))(fi:bB s)(r:Rel B ρ s.h w)(h:p8 P ty a b c YG t s= .ok x s1)(ho:o.op= .mapUpdate ty a b c\/o.op= .insert ty a b c):gf P B ρ s s1 w x<|execOp ev o:=by unfold p8 at h;obtain⟨m,h1,h2⟩:=bu h;obtain⟨k,h3,h4⟩:=bu h2;obtain⟨v,h5,h6⟩:=bu h4;obtain⟨u,s2,h7,h8⟩:=M.aN h6;obtain⟨rfl,rfl⟩:=bA h8;obtain⟨a1,w',a2,a3,a4⟩:=ZM (P:=P) (he a m h1) (he b k h3) (he c v h5) fi r h7;refine⟨ρ,w',.skip,by rw[a1];exact Ext.refl _ _ _,?_,rfl,a3,a4⟩;rcases ho with ho|ho<;>simp[execOp,ho,a2]
end
end Go.Rn
namespace Go.Rn
open Go.RowKit
variable {y:Operand} {ty:TypeId} {es:List<|AV×AV} {b:Nat}
section
variable {P:Program} {B:aJ} {ρ:Ren} {w:World} {s s1:AS} {x:AV} {YG:aK} {t:Tr AV} {ev:Operand->Value} {o:Oper}
theorem jY.born:∀{es:List<|AV×AV} {l:List MapEntry} {n:Nat},jY ρ es l n->l.map (·.born)=List.range' n es.length
 |[],l,n,h=>by have h':l=[]:=h;subst h';rfl
 |p::es,l,n,h=>by obtain⟨e,l',rfl,a,b,c,d⟩:=h;rw[List.map_cons,c,d.born,List.length_cons,List.range'_succ]
theorem jY.Vj{l:List MapEntry}(h:jY ρ es l 0):sL l es.length:=by have hb:=h.born;refine⟨by rw[hb];exact List.nodup_range',fun e he=>?_⟩;have:e.born∈l.map (·.born):=List.mem_map_of_mem he;rw[hb,List.mem_range'_1] at this;omega
theorem Rel.ahH{h:Tr ae}(r:Rel B ρ h w){n m:Nat}{p:ae}{N:Nat}{ex:Bool}{l:Array MapEntry}{bp:Nat}(Xs:n<top)(GN:ρ n=none)(o6:m<top)(hg:h.get m=some p)(hp:p.plain=true)(cq:p.dh=false)(hm:ρ m=some (b,N))(hb:w.heap[b]? =some (.map l bp))(zJ:sL l.toList bp)(h1:ex=true->bp=es.length/\jY ρ es l.toList 0)(h2:ex=false->lp es/\vT ρ es l.toList)(h3:vT ρ es l.toList):
 Rel B (eM ρ n (w.heap.size,1)) ((h.put m<|some .iA).put n<|some<|.iter m es ex es none) {w with heap:=w.heap.push<|.mapIter (some b) bp #[] bp}:=by
 have hl:ρ.le<|eM ρ n (w.heap.size,1):=oi GN;have rN:m≠n:=by intro e;subst e;rw[hm] at GN;cases GN
 have ko:h.get n=none:=by
  cases e:h.get n with
  |none=>rfl
  |some p=>obtain⟨_,_,_,h1,_⟩:=r.is n p Xs e;rw[GN] at h1;cases h1
 have g:∀k,k<top->((h.put m<|some .iA).put n<|some<|.iter m es ex es none).get k=if k=n then some (.iter m es ex es none) else if k=m then some .iA else h.get k:=by intro k hk;rw[Tr.da _ _ _ _ Xs hk,Tr.da _ _ _ _ o6 hk]
 have hw:∀k,k<w.heap.size->(w.heap.push<|.mapIter (some b) bp #[] bp)[k]? =w.heap[k]? :=(gN.alloc w _).block;obtain⟨_,_,_,hB⟩:=r.block o6 hg hm;have size:∀k q,k<top->h.get k=some q->∀b1 N1,ρ k=some (b1,N1)->b1<w.heap.size:=by intro k q hk hq b1 N1 e;obtain⟨b2,N2,o2,e1,e2,_⟩:=r.is k q hk hq;rw[e] at e1;cases e1;exact ib e2
 have dy:∀k q,k<top->(if k=m then some ae.iA else h.get k)=some q->∃q',h.get k=some q'/\(q.dh=false->q'.dh=false):=by
  intro k q hk hq;by_cases e:k=m
  ·subst e;exact⟨p,hg,fun _=>cq⟩
  ·rw[if_neg e] at hq;exact⟨q,hq,id⟩
 refine⟨?_,?_,?_,fun k hk=>r.size k<|Nat.le_trans jF hk,?_,r.fz.of hl (fun b1 ue _=>hw b1 ue) (fun b1 ue hn j q M hj hq gZ e=>by
  rw[g j hj] at hq;by_cases a:j=n
  ·subst a;rw[iP] at e;cases e;exact absurd ue (Nat.lt_irrefl _)
  ·rw[if_neg a] at hq;rw[gI ρ _ a] at e;obtain⟨q',e1,e2⟩:=dy j q hj hq;exact hn j q' M hj e1 (e2 gZ) e),r.tk.of hl (fun j q hj hq xN=>by
  rw[g j hj] at hq;by_cases a:j=n
  ·rw[if_pos a] at hq;cases hq;cases xN
  ·rw[if_neg a] at hq;by_cases a2:j=m
   ·rw[if_pos a2] at hq;cases hq;cases xN
   ·rw[if_neg a2] at hq;exact hq) jF (fun b1 ue _=>hw b1 ue) (fun b1 ue hn j q M hj hq gZ e=>by
  rw[g j hj] at hq;by_cases a:j=n
  ·subst a;rw[iP] at e;cases e;exact absurd ue (Nat.lt_irrefl _)
  ·rw[if_neg a] at hq;rw[gI ρ _ a] at e;obtain⟨q',e1,e2⟩:=dy j q hj hq;exact hn j q' M hj e1 (e2 gZ) e) (fun j x sh _ _ e=>by rw[gI ρ _ (by have:=gb j x sh;omega)];exact e)⟩
 ·intro k q hk hq;rw[g k hk] at hq;by_cases e:k=n
  ·subst e;rw[if_pos rfl] at hq;cases hq;refine⟨w.heap.size,1,.mapIter (some b) bp #[] bp,iP _ _ _,by simp,?_,fun _=>r.size _<|Nat.le_refl _⟩;exact⟨b,N,bp, #[],hl _ _ hm,rfl⟩
  ·rw[if_neg e] at hq;by_cases e2:k=m
   ·subst e2;rw[if_pos rfl] at hq;cases hq;exact⟨b,N,_,hl _ _ hm,(hw b<|ib hb).trans hb,⟨l,bp,rfl⟩,fun _=>hB cq⟩
   ·rw[if_neg e2] at hq;obtain⟨b1,N1,o1,c1,c2,c3,c4⟩:=r.is k q hk hq;exact⟨b1,N1,o1,hl _ _ c1,(hw b1<|ib c2).trans c2,c3.mono hl,c4⟩
 ·intro k j q q' b1 N1 M1 hk hj hq dY cP e1 e2;rw[g k hk] at hq;rw[g j hj] at dY;by_cases a1:k=n
  ·by_cases a2:j=n
   ·omega
   ·rw[if_neg a2] at dY;subst a1;rw[iP] at e1;cases e1;rw[gI ρ _ a2] at e2;obtain⟨q2,GO,Xt⟩:=dy j q' hj dY;exact absurd (size j q2 hj GO _ _ e2)<|Nat.lt_irrefl _
  ·rw[if_neg a1] at hq;rw[gI ρ _ a1] at e1;obtain⟨q1,KH,hr1⟩:=dy k q hk hq;by_cases a2:j=n
   ·subst a2;rw[iP] at e2;cases e2;exact absurd (size k q1 hk KH _ _ e1)<|Nat.lt_irrefl _
   ·rw[if_neg a2] at dY;rw[gI ρ _ a2] at e2;obtain⟨q2,GO,Xt⟩:=dy j q' hj dY;exact r.one k j q1 q2 b1 N1 M1 hk hj KH GO (cP.imp hr1 Xt) e1 e2
 ·intro i m' gY iU left cur hi hq;rw[g i hi] at hq;by_cases e:i=n
  ·subst e;rw[if_pos rfl] at hq;cases hq;refine⟨o6,by rw[g m o6,if_neg rN,if_pos rfl],?_⟩;refine⟨w.heap.size,1,b,N,l,bp, #[],iP _ _ _,hl _ _ hm,by simp,(hw b<|ib hb).trans hb,zJ,fun e=>⟨(h1 e).1,(h1 e).2.mono hl⟩,fun e=>⟨(h2 e).1,(h2 e).2.mono hl⟩,?_,rfl⟩;have:(l.toList.filter fun e=> !(#[]:Array Nat).contains e.born)=l.toList:=List.filter_eq_self.2 jF;rw[this];exact h3.mono hl
  ·rw[if_neg e] at hq;by_cases e2:i=m
   ·subst e2;rw[if_pos rfl] at hq;cases hq
   ·rw[if_neg e2] at hq;obtain⟨eY,fq,b1,N1,bm,M,l1,aez,seen,c1,c2,c3,c4,c5⟩:=r.iter i m' gY iU left cur hi hq;have d1:m'≠n:=by intro e3;subst e3;rw[ko] at fq;cases fq
    refine⟨eY,?_,mT.mono hl ⟨b1,N1,bm,M,l1,aez,seen,c1,c2,(hw b1<|ib c3).trans c3,(hw bm<|ib c4).trans c4,c5⟩⟩;rw[g m' eY,if_neg d1];by_cases d2:m'=m
    ·rw[if_pos d2]
    ·rw[if_neg d2];exact fq
 ·have new:∀i,i<top->∀zK zL y8 zo,(if i=m then some ae.iA else h.get i)≠some (.iter m zK zL y8 zo):=by
   intro i hi zK zL y8 zo hq;by_cases e:i=m
   ·rw[if_pos e] at hq;cases hq
   ·rw[if_neg e] at hq;obtain⟨_,fq,_⟩:=r.iter i m _ _ _ _ hi hq;rw[hg] at fq;cases fq;simp[ae.plain] at hp
  intro i j m' zK zL y8 zo KJ KK JD J2 hi hj q1 q2;rw[g i hi] at q1;rw[g j hj] at q2;by_cases e:i=n
  ·by_cases e2:j=n
   ·omega
   ·rw[if_pos e] at q1;rw[if_neg e2] at q2;cases q1;exact absurd q2<|new j hj _ _ _ _
  ·rw[if_neg e] at q1;by_cases e2:j=n
   ·rw[if_pos e2] at q2;cases q2;exact absurd q1<|new i hi _ _ _ _
   ·rw[if_neg e2] at q2;by_cases e3:i=m
    ·rw[if_pos e3] at q1;cases q1
    ·rw[if_neg e3] at q1;by_cases e4:j=m
     ·rw[if_pos e4] at q2;cases q2
     ·rw[if_neg e4] at q2;exact r.lone i j m' _ _ _ _ _ _ _ _ hi hj q1 q2
theorem Zl{m:Option Nat}{c c':Nat}{seen:Array Nat}(hb:w.heap[b]? =some (.mapIter m c seen c')):(getObj b).run P w= .ok (.mapIter m c seen c') w:=by simp[getObj,Sem.run,hb]
theorem Zm{a:AV}{va:Value}(ha:VR ρ a va)(fi:bB s)(r:Rel B ρ s.h w)(hf:dA s.nx s1.nx ρ)(h:Az P ty a s= .ok x s1):jT P B ρ s s1 w x<|Instr.range ty va:=by
 unfold Az at h;cases e1:P.underlying ty with
 |none=>simp only[e1] at h;cases h
 |some d=>
  cases d<;>simp only[e1] at h<;>first|(cases h;done)|skip
  cases a<;>first|(cases h;done)|skip
  rename_i q;cases q with
  |none=>cases h
  |some m=>
   simp only[VR] at ha;obtain⟨b,N,hm,rfl⟩:=ha;obtain⟨ob,s2,h1,h2⟩:=M.aN h;obtain⟨hx,hg,hh,cr⟩:=fU h1;have o6:m<top:=Nat.lt_of_lt_of_le hx fi.nx;obtain⟨o',hb,hO,hB⟩:=r.block o6 hg hm;have fin:∀(es:List<|AV×AV) (ex:Bool) (l:Array MapEntry) (bp:Nat),ob.plain=true->ob.dh=false->w.heap[b]? =some (.map l bp)->sL l.toList bp->(ex=true->bp=es.length/\jY ρ es l.toList 0)->(ex=false->lp es/\vT ρ es l.toList)->vT ρ es l.toList->
    ((bJ m<|some .iA).bind fun _=>(gA<|.iter m es ex es none).bind fun n=>M.pure<|.ptr<|some (n,0)) s2= .ok x s1->jT P B ρ s s1 w x (Instr.range ty<|.map<|some b):=by
    intro es ex l bp hp cq fN zJ p1 p2 p3 h3;obtain⟨u,s3,h4,h5⟩:=M.aN h3;obtain⟨n,s4,h6,h7⟩:=M.aN h5;obtain⟨rfl,rfl⟩:=bA h7;obtain⟨_,_,_,i1,i2⟩:=jx h4;obtain⟨ht,rfl,rfl⟩:=uJ h6;have e:s3.nx=s.nx:=i2.trans cr;have jb:ρ s3.nx=none:=hf s3.nx aj (Nat.lt_succ_self _) aj;refine⟨eM ρ s3.nx (w.heap.size,1),_,.pointer<|some ⟨w.heap.size,0,none⟩,?_,?_,?_,?_,(gN.alloc w<|.mapIter (some b) bp #[] bp).below r.size⟩
    ·rw[←e];exact Ext.mq jb
    ·simp only[Instr.range,Sem.run_bind,dm e1,Result.andThen_ok,MapKept.run_getObj_map fN,Sem.run_pure,newObj,Sem.run]
    ·simp only[VR];exact⟨_,_,iP _ _ _,rfl⟩
    ·show Rel B _ (s3.h.put s3.nx<|some<|.iter m es ex es none) _;rw[i1,hh];exact r.ahH ht jb o6 hg hp cq hm fN zJ p1 p2 p3
   cases ob with
   |map es bp=>obtain⟨l,rfl,CV,he⟩:=hO;exact fin es true l bp rfl rfl hb (by rw[CV];exact he.Vj) (fun _=>⟨CV,he⟩) (fun e=>by cases e) ⟨_,List.Perm.refl _,he.eqs⟩ h2
   |lq es=>obtain⟨l,bp,rfl,ka,zJ,he⟩:=hO;exact fin es false l bp rfl rfl hb zJ (fun e=>by cases e) (fun _=>⟨ka,he⟩) he h2
   |_=>cases h2
theorem ZN(he:∀x v,aH t x=some v->VR ρ v (ev x))(fi:bB s)(r:Rel B ρ s.h w)(hf:dA s.nx s1.nx ρ)(h:AT P ty y YG t s= .ok x s1)(ho:o.op= .range ty y):gf P B ρ s s1 w x<|execOp ev o:=by unfold AT at h;obtain⟨a,h1,h2⟩:=bu h;have:=(Zm (P:=P) (he y a h1) fi r hf h2).op;simpa only[execOp,ho] using this
theorem find_born{e:MapEntry}:∀{l:List MapEntry},(l.map (·.born)).Nodup->e∈l->l.find? (·.born == e.born)=some e
 |[],_,h=>by cases h
 |a::l,hn,h=>by
  rw[List.map_cons,List.nodup_cons] at hn;rcases List.mem_cons.1 h with rfl|h
  ·simp
  ·have:(a.born == e.born)=false:=by rw[beq_eq_false_iff_ne];intro q;exact hn.1 (by rw[q];exact List.mem_map_of_mem h)
   rw[List.find?_cons,this];exact find_born hn.2 h
theorem ZO(he:∀x v,aH t x=some v->VR ρ v (ev x))(fi:bB s)(r:Rel B ρ s.h w)(h:AU y YG t s= .ok x s1)(ho:o.op= .entry y):gf P B ρ s s1 w x<|execOp ev o:=by
 unfold AU at h;obtain⟨a,h1,h2⟩:=bu h;have ha:=he y a h1;unfold CI at h2;split at h2
 ·rename_i n;obtain⟨ob,s2,h3,h4⟩:=M.aN h2;obtain⟨hx,hg,hh,cr⟩:=fU h3;have ht:n<top:=Nat.lt_of_lt_of_le hx fi.nx;split at h4
  ·rename_i m es ex left k v;obtain⟨rfl,rfl⟩:=bA h4;obtain⟨_,_,b,N,bm,M,l,bp,seen,c1,c2,c3,c4,c5,_,_,_,c9⟩:=r.iter n m es ex left _ ht hg;obtain⟨e,d1,d2,d3,d4⟩:=c9;simp only[VR] at ha;obtain⟨b',N',q1,q2⟩:=ha;rw[c1] at q1;cases q1;refine⟨ρ,w,.value<|.tuple #[e.key,e.val],by rw[cr];exact Ext.refl _ _ _,?_,?_,by rw[hh];exact r,cw.refl _ _⟩
   ·have hf:l.find? (·.born == e.born)=some e:=by rw[←Array.find?_toList];exact find_born c5.1 d1
    simp only[execOp,ho,q2,Instr.entry,Sem.run_bind,Zl c3,Result.andThen_ok,d2,MapKept.run_getObj_map c4,bne_self_eq_false,Bool.false_eq_true,if_false,hf,Sem.run_pure]
   ·simp only[VR,ay];exact⟨_,rfl,_,_,rfl,d3,_,_,rfl,d4,rfl⟩
  ·cases h4
 ·cases h2
theorem Y9(he:∀x v,aH t x=some v->VR ρ v (ev x))(fi:bB s)(r:Rel B ρ s.h w)(h:Cw y YG t s= .ok x s1)(ho:o.op= .next y true):gf P B ρ s s1 w x<|execOp ev o:=by have h':(R.bad:R AV)= .ok x s1:=h;cases h'
end
end Go.Rn
namespace Go.Rn
open Go.RowKit
variable {y:Operand} {ts:Array TypeId} {args:Array Operand}
def aeA(P:Program)(l:Nat)(f:FuncId)(tmps:Array Value)(assign body:Code)(w:World)(R:Value->World->Prop):Prop:=∀(c:Frame) (cs:List Frame),∃v w',R v w'/\Steps P (lone (Frame.round l f tmps assign body .normal) (c::cs) w) (lone (c.finish v) cs w')
def jg(P:Program)(r:Result Next)(R:Value->World->Prop):Prop:=
 match r with
 | .ok (.value v) w=>R v w
 | .ok .skip w=>R undef w
 | .ok (.enter f args) w=>Calls P f args w fun e w'=>∃v,e= .returned v/\R v w'
 | .ok (.round l f tmps assign body) w=>aeA P l f tmps assign body w R
 |_=>False
def ki(B:aJ)(ρ:Ren)(s s1:AS)(w:World)(x:AV):Value->World->Prop:=fun v w'=>∃σ,Ext s.nx s1.nx ρ σ/\VR σ x v/\Rel B σ s1.h w'/\cw B w w'
structure fQ (P:Program) (B:aJ) (YG:aK):Prop where
 fn:∀(f:FuncId) (args:List AV) (x:AV) (s s1:AS) (ρ:Ren) (w:World) (vs:Array Value),bB s->Rel B ρ s.h w->gC ρ->dA s.nx s1.nx ρ->YG (.fn f) args s= .ok x s1->ay ρ args vs.toList->
  jg P ((callFunc f vs).run P w) (ki B ρ s s1 w x)
 round:∀(l b N:Nat) (args:List AV) (x:AV) (s s1:AS) (ρ:Ren) (w:World) (vs:Array Value),bB s->Rel B ρ s.h w->gC ρ->dA s.nx s1.nx ρ->YG (.round l) args s= .ok x s1->ay ρ args vs.toList->
  ρ l=some (b,N)->jg P ((Instr.yield b vs).run P w) (ki B ρ s s1 w x)
 row:AW B YG
section
variable {P:Program} {B:aJ} {ρ:Ren} {w:World} {s s1:AS} {x:AV} {YG:aK} {t:Tr AV} {ev:Operand->Value} {o:Oper}
theorem gf.back{c:Sem Next}(h:gf P B ρ s s1 w x c):jg P (c.run P w)<|ki B ρ s s1 w x:=by
 obtain⟨σ,w',nv,a,b,d,e,f⟩:=h;rw[b];cases nv<;>first|(cases d;done)|skip
 ·exact⟨σ,a,d,e,f⟩
 ·exact⟨σ,a,by rw[d];exact VR.undef σ,e,f⟩
theorem VR.To{f:Fn}{a c:List AV}{v:Value}(h:VR ρ (.func f a c) v):Uf f=true/\∃p q,v= .func f p q/\ay ρ a p.toList/\ay ρ c q.toList:=by simpa only[VR] using h
theorem aat(hc:fQ P B YG)(he:∀x v,aH t x=some v->VR ρ v (ev x))(hg:gC ρ)(fi:bB s)(r:Rel B ρ s.h w)(hf:dA s.nx s1.nx ρ)(h:tj y args.toList YG t s= .ok x s1)(ho:o.op= .call ⟨.value y,args,ts⟩):jg P ((execOp ev o).run P w)<|ki B ρ s s1 w x:=by
 unfold tj at h;obtain⟨l,h1,h2⟩:=bu h;obtain⟨f,h3,h4⟩:=bu h2;have hl:=EY he h1;have yd:=he y f h3;unfold mV at h4;split at h4
 ·rename_i g first captured
  obtain⟨_,p,q,e,hp,hq⟩:=yd.To;have OX:ay ρ (first++l++captured) (p++args.map ev++q).toList:=by rw[Array.toList_append,Array.toList_append];exact(hp.append<|by simpa using hl).append hq
  have:=hc.fn g _ x s s1 ρ w _ fi r hg hf h4 OX;simp only[execOp,ho,resolve,Deferred.ofValue,e,Sem.run_bind,Sem.run_pure,Result.andThen_ok,invoke];exact this
 ·rename_i n;have kq:=yd;simp only[VR] at kq;obtain⟨b,N,hn,e⟩:=kq;have:=hc.round n b N _ x s s1 ρ w (args.map ev) fi r hg hf h4 (by simpa using hl) hn;simp only[execOp,ho,resolve,Deferred.ofValue,e,Sem.run_bind,Sem.run_pure,Result.andThen_ok,invoke];simpa using this
 ·cases h4
theorem Zn{name:String}(hc:fQ P B YG)(he:∀x v,aH t x=some v->VR ρ v (ev x))(hg:gC ρ)(fi:bB s)(r:Rel B ρ s.h w)(hf:dA s.nx s1.nx ρ)(h:Ny P y name args.toList YG t s= .ok x s1)(ho:o.op= .call ⟨.invoke y name,args,ts⟩):jg P ((execOp ev o).run P w)<|ki B ρ s s1 w x:=by have h':(R.bad:R AV)= .ok x s1:=h;cases h'
end
end Go.Rn
namespace Go.Rn
open Go.RowKit
section
variable {P:Program} {B:aJ} {ρ:Ren} {w:World} {s s1:AS} {x:AV} {YG:aK} {t:Tr AV} {o:Oper}
theorem aeB{a:Act}{nt:Nat}(hc:fQ P B YG)(hl:∀t a,YF<|YG t a)(ht:TR ρ nt t a.tmps)(hg:gC ρ)(fi:bB s)(r:Rel B ρ s.h w)(hf:dA s.nx s1.nx ρ)(h:(du P o.op).val YG t s= .ok x s1):
 (∀c,o.op≠ .defer c)/\jg P ((execOp a.eval o).run P w) (ki B ρ s s1 w x):=by
 have he:∀x v,aH t x=some v->VR ρ v (a.eval x):=fun x v=>CJ ht hg;cases eV:o.op
 all_goals rw[eV] at h
 case move y=>exact⟨by simp,(Sx (YG:=YG) he r h<|.inl eV).back⟩
 case assign y=>exact⟨by simp,(Sx (YG:=YG) he r h<|.inr eV).back⟩
 case pick c p q=>exact⟨by simp,(aan (YG:=YG) he r h eV).back⟩
 case alloc e=>exact⟨by simp,(Zz (YG:=YG) (t:=t) r hf h eV).back⟩
 case box e y=>exact⟨by simp,(abx (YG:=YG) he r hf h eV).back⟩
 case build ty parts=>exact⟨by simp,(ZC (YG:=YG) he r h eV).back⟩
 case buildSlice ty len parts=>exact⟨by simp,(YH (YG:=YG) he r hf h eV).back⟩
 case load ty y=>exact⟨by simp,(aao (YG:=YG) hc.row he fi r h eV).back⟩
 case store ty y z=>exact⟨by simp,(ZA (YG:=YG) he fi r h eV).back⟩
 case nilCheck y=>exact⟨by simp,(YQ (YG:=YG) he r h eV).back⟩
 case binOp op ty y z u=>exact⟨by simp,(aby (YG:=YG) he r h eV).back⟩
 case unOp op ty y=>exact⟨by simp,(acR (YG:=YG) he r h eV).back⟩
 case convert src dst y=>exact⟨by simp,(Y2 (YG:=YG) he fi r h eV).back⟩
 case makeInterface ty y=>exact⟨by simp,(acI (YG:=YG) he r h eV).back⟩
 case makeFunc fn first captured=>exact⟨by simp,(YR (YG:=YG) he r h eV).back⟩
 case makeMap ty y=>exact⟨by simp,(Y3 (YG:=YG) he r hf h eV).back⟩
 case makeSlice ty l c=>exact⟨by simp,(YM (YG:=YG) he r hf h eV).back⟩
 case slice ty y lo hi mx=>exact⟨by simp,(ZH (YG:=YG) he r h eV).back⟩
 case fieldAddr ty y f=>exact⟨by simp,(YK (YG:=YG) he r h eV).back⟩
 case field ty y f=>exact⟨by simp,(ZF (YG:=YG) he r h eV).back⟩
 case indexAddr ty y z=>exact⟨by simp,(YL (YG:=YG) he r h eV).back⟩
 case index ty y z=>exact⟨by simp,(ZG (YG:=YG) he r h eV).back⟩
 case lookup ty y z ok=>exact⟨by simp,(Zk (YG:=YG) he fi r h eV).back⟩
 case mapUpdate ty m k y=>exact⟨by simp,(RK (YG:=YG) he fi r h<|.inl eV).back⟩
 case insert ty m k y=>exact⟨by simp,(RK (YG:=YG) he fi r h<|.inr eV).back⟩
 case typeAssert y xt asserted ok=>exact⟨by simp,(Zg (YG:=YG) he r h eV).back⟩
 case range ty y=>exact⟨by simp,(ZN (YG:=YG) he fi r hf h eV).back⟩
 case entry y=>exact⟨by simp,(ZO (YG:=YG) he fi r h eV).back⟩
 case next y Qd=>
  cases Qd with
  |true=>exact⟨by simp,(Y9 (YG:=YG) he fi r h eV).back⟩
  |false=>exact absurd (show(fail:M AV) s= .ok x s1 from h) (by intro e;cases e)
 case extract y i=>exact⟨by simp,(Y4 (YG:=YG) he r h eV).back⟩
 case call c=>
  obtain⟨callee,args,ts⟩:=c;cases callee with
  |builtin b=>exact⟨by simp,(Y7 (YG:=YG) hc.row hl he fi r hf h eV).back⟩
  |value f=>exact⟨by simp,aat hc he hg fi r hf h eV⟩
  |invoke recv name=>exact⟨by simp,Zn hc he hg fi r hf h eV⟩
 all_goals (exact absurd (show(fail:M AV) s= .ok x s1 from h) (by intro e;cases e))
end
end Go.Rn
namespace Go.Rn
open Go.RowKit
variable {nt i:Nat} {a:Act} {ops:Array Oper} {t1:Tr AV} {dst:Option Tmp}
section
variable {P:Program} {B:aJ} {ρ:Ren} {w:World} {s s1:AS} {x:AV} {YG:aK} {t:Tr AV} {o:Oper}
theorem SE{f:AV}{args:List AV}{vf:Value}{vs:Array Value}(hc:fQ P B YG)(hg:gC ρ)(fi:bB s)(r:Rel B ρ s.h w)(hf:dA s.nx s1.nx ρ)(yd:VR ρ f vf)(hl:ay ρ args vs.toList)(h4:mV YG f args s= .ok x s1):jg P ((do let d ←Deferred.ofValue vf vs;invoke d.target d.args:Sem Next).run P w)<|ki B ρ s s1 w x:=by
 unfold mV at h4;split at h4
 ·rename_i g first captured
  obtain⟨_,p,q,e,hp,hq⟩:=yd.To;have OX:ay ρ (first++args++captured) (p++vs++q).toList:=by rw[Array.toList_append,Array.toList_append];exact(hp.append hl).append hq
  have:=hc.fn g _ x s s1 ρ w _ fi r hg hf h4 OX;simp only[Deferred.ofValue,e,Sem.run_bind,Sem.run_pure,Result.andThen_ok,invoke];exact this
 ·rename_i n;have kq:=yd;simp only[VR] at kq;obtain⟨b,N,hn,e⟩:=kq;have:=hc.round n b N _ x s s1 ρ w vs fi r hg hf h4 hl hn;simp only[Deferred.ofValue,e,Sem.run_bind,Sem.run_pure,Result.andThen_ok,invoke];simpa using this
 ·cases h4
theorem RZ{R:Value->World->Prop}(ho:ops[i]? =some o)(hw:Region.wanted o (yielded ops a.tmps)=true)(hd:∀c,o.op≠ .defer c)(h:jg P ((execOp a.eval o).run P w) R)(b:Frame)(k:List Item)(cs:List Frame)(rest:List Nat):
 ∃v w',R v w'/\Steps P (lone (b.atR a<|.inRegion ops (i::rest)::k) cs w) (lone (b.atR (a.put o.dst v)<|.inRegion ops rest::k) cs w'):=by
 have hg:=stepGR_op (P:=P) (b:=b) (k:=k) (cs:=cs) (w:=w) (rest:=rest) ho hw;rw[Oper.semAt_eq _ _ _ hd] at hg;have pI:∀v,(b.atR a<|.inRegion ops (i::rest)::k).finish v=b.atR (a.put o.dst v) (.inRegion ops rest::k):=by intro v;rw[Frame.finish_atR,ho];rfl
 generalize hr:(execOp a.eval o).run P w=res at h;unfold jg at h;split at h
 ·rename_i v w';refine⟨v,w',h,.one<|step_lone_go ?_⟩;rw[hg, ←pI];simp[stepG.apply,hr]
 ·rename_i w';refine⟨undef,w',h,.one<|step_lone_go ?_⟩;rw[hg, ←pI];simp[stepG.apply,hr]
 ·rename_i f args w';obtain⟨e,ni,fr,⟨v,rfl,hR⟩,AY,cj,Oa⟩:=h<|b.atR a (.inRegion ops (i::rest)::k)::cs;have AZ:step P (lone (b.atR a<|.inRegion ops (i::rest)::k) cs w)= .next (lone (Frame.enter P f args .normal) (b.atR a (.inRegion ops (i::rest)::k)::cs) w'):=step_lone_go (by rw[hg];simp[stepG.apply,hr,Frame.atR])
  refine⟨v,ni,hR,.head AZ<|Steps.trans AY<|.one ?_⟩;rw[←pI];exact step_leave_returned Oa
 ·rename_i l f tmps assign body w';obtain⟨v,ni,hR,AY⟩:=h (b.atR a<|.inRegion ops (i::rest)::k) cs;have AZ:step P (lone (b.atR a<|.inRegion ops (i::rest)::k) cs w)= .next (lone (Frame.round l f tmps assign body .normal) (b.atR a (.inRegion ops (i::rest)::k)::cs) w'):=step_lone_go (by rw[hg];simp[stepG.apply,hr,Frame.atR])
  refine⟨v,ni,hR,.head AZ ?_⟩;rw[←pI];exact AY
 ·cases h
theorem Zo(ht:TR ρ nt t a.tmps)(j:Nat)(hk:sP ops t j=true):yielded ops a.tmps j=EX ops t j:=by
 unfold sP at hk;unfold yielded EX;cases e1:ops[j]? with
 |none=>rfl
 |some q=>
  rw[e1] at hk;simp only[Option.bind_some];simp only at hk;cases e2:q.dst with
  |none=>rfl
  |some d=>
   rw[e2] at hk;simp only[Option.bind_some];simp only at hk;cases e4:t.get d with
   |none=>rw[e4] at hk;cases hk
   |some y=>
    have hv:=ht.2 d y e4;rw[Array.getD_eq_getD_getElem?] at hv;cases e3:a.tmps[d]? with
    |none=>rw[e3] at hv;cases y<;>first|rfl|(exfalso;simp only[Option.getD_none,VR,Go.undef] at hv;cases hv)
    |some v=>
     rw[e3] at hv;simp only[Option.getD_some] at hv;cases v with
     |bool c=>rw[Uk hv]
     |_=>cases y<;>first|rfl|(exfalso;simp only[VR] at hv;cases hv)
theorem Zp{g:Nat×Bool}(ht:TR ρ nt t a.tmps)(hg:o.guard=some g)(hk:sP ops t g.1=true):Region.wanted o (yielded ops a.tmps)=p9 ops g t:=by
 unfold Region.wanted p9;rw[hg];simp only[Zo ht g.1 hk];cases EX ops t g.1 with
 |none=>rfl
 |some b=>cases b<;>cases g.2<;>rfl
theorem Cx{v:AV}(h:je nt t dst v=some t1):(dst=none/\t1=t)\/∃d,dst=some d/\d<nt/\t1=t.put d (some v):=by
 cases dst with
 |none=>injection h with h;exact .inl ⟨rfl,h.symm⟩
 |some d=>
  have h': @Bool.rec (fun _=>Option<|Tr AV) none (some<|t.put d<|some v) (Nat.blt d nt)=some t1:=h;rw[yI] at h';by_cases q:d<nt
  ·rw[if_pos q] at h';injection h' with h';exact .inr ⟨d,rfl,q,h'.symm⟩
  ·rw[if_neg q] at h';cases h'
theorem Cy{y:AV}{v:Value}(ht:TR ρ nt t a.tmps)(iV:nt<=top)(h:je nt t dst y=some t1)(hv:VR ρ y v):TR ρ nt t1 (a.put dst v).tmps/\(a.put dst v).defers=a.defers:=by
 rcases Cx h with⟨rfl,rfl⟩|⟨d,rfl,hd,rfl⟩
 ·exact⟨ht,rfl⟩
 ·exact⟨ht.set hd iV hv,rfl⟩
structure At (B:aJ) (ρ:Ren) (s:AS) (nt:Nat) (t:Tr AV) (w:World) (a:Act):Prop where
 tr:TR ρ nt t a.tmps
 rel:Rel B ρ s.h w
 g:gC ρ
 nt:nt<=top
 cm:bB s
def DC(P:Program)(B:aJ)(ρ:Ren)(s s1:AS)(nt:Nat)(t1:Tr AV)(w:World)(a:Act)(m:Machine)(m':Act->World->Machine):Prop:=∃σ a' w',Ext s.nx s1.nx ρ σ/\At B σ s1 nt t1 w' a'/\a'.defers=a.defers/\cw B w w'/\Steps P m (m' a' w')
theorem Tp(hc:fQ P B YG)(hl:∀t a,YF<|YG t a)(ho:ops[i]? =some o)(ax:At B ρ s nt t w a)(hf:dA s.nx s1.nx ρ)(h:gM P YG nt ops o t s= .ok t1 s1)(b:Frame)(k:List Item)(cs:List Frame)(rest:List Nat):
 DC P B ρ s s1 nt t1 w a (lone (b.atR a<|.inRegion ops (i::rest)::k) cs w) (fun a' w'=>lone (b.atR a'<|.inRegion ops rest::k) cs w'):=by
 have main:∀(f:(du P o.op).val YG t s=(du P o.op).val YG t s),Region.wanted o (yielded ops a.tmps)=true->rL (du P o.op) o.dst YG nt t s= .ok t1 s1->
  DC P B ρ s s1 nt t1 w a (lone (b.atR a<|.inRegion ops (i::rest)::k) cs w) (fun a' w'=>lone (b.atR a'<|.inRegion ops rest::k) cs w'):=by
  intro _ hw hk;unfold rL at hk;obtain⟨v,s2,h1,h2⟩:=M.aN hk;obtain⟨h3,rfl⟩:=gT h2;obtain⟨hd,hb⟩:=aeB hc hl ax.tr ax.g ax.cm ax.rel hf h1;obtain⟨u,w',⟨σ,e1,e2,e3,e4⟩,st⟩:=RZ ho hw hd hb b k cs rest;obtain⟨q1,q2⟩:=Cy (ax.tr.mono e1.le) ax.nt h3 e2;exact⟨σ,a.put o.dst u,w',e1,⟨q1,e3,ax.g.mono e1.le,ax.nt,(YF.GH P hl t o.op).cm ax.cm h1⟩,q2,e4,st⟩
 unfold gM Bd at h;cases hg:o.guard with
 |none=>rw[hg] at h;exact main rfl (by unfold Region.wanted;rw[hg]) h
 |some g=>
  rw[hg] at h;have h':tq ops g (du P o.op) o.dst YG nt t s= .ok t1 s1:=h;unfold tq at h';obtain⟨hk,h'⟩:=cV h';have hw:=Zp (ops:=ops) ax.tr hg hk;cases q:p9 ops g t with
  |true=>rw[q] at h' hw;exact main rfl hw h'
  |false=>rw[q] at h' hw;obtain⟨h3,rfl⟩:=gT (show lift (je nt t o.dst om) s= .ok t1 s1 from h');obtain⟨q1,q2⟩:=Cy ax.tr ax.nt h3<|VR.undef ρ;have hs:=stepR_op_skip (P:=P) (b:=b) (a:=a) (k:=k) (cs:=cs) (w:=w) (ops:=ops) (i:=i) (rest:=rest) (by simp[ho];simpa using hw);simp only[ho,Option.bind_some] at hs;exact⟨ρ,a.put o.dst undef,w,Ext.refl _ _ _,⟨q1,ax.rel,ax.g,ax.nt,ax.cm⟩,q2,cw.refl _ _,.one hs⟩
theorem MU{ops:Array Oper}{nt:Nat}(hc:fQ P B YG)(hl:∀t a,YF<|YG t a)(b:Frame)(k:List Item)(cs:List Frame):∀(n i:Nat) (l:List Oper) {t t1:Tr AV} {s s1:AS} {ρ:Ren} {a:Act} {w:World},l.length=n->ops.toList.drop i=l->
 At B ρ s nt t w a->dA s.nx s1.nx ρ->jf P YG nt ops l t s= .ok t1 s1->
 DC P B ρ s s1 nt t1 w a (lone (b.atR a<|.inRegion ops (List.range' i n)::k) cs w) (fun a' w'=>lone (b.atR a' k) cs w')
 |0,i,l,t,t1,s,s1,ρ,a,w,hn,_,ax,_,h=>by have:l=[]:=List.eq_nil_of_length_eq_zero hn;subst this;obtain⟨rfl,rfl⟩:=bA (show M.pure t s= .ok t1 s1 from h);exact⟨ρ,a,w,Ext.refl _ _ _,ax,rfl,cw.refl _ _,.one stepR_region_end⟩
 |n+1,i,l,t,t1,s,s1,ρ,a,w,hn,kV,ax,hf,h=>by
  cases l with
  |nil=>cases hn
  |cons o l=>
   obtain⟨t2,s2,h1,h2⟩:=M.aN (show((gM P YG nt ops o t).bind<|jf P YG nt ops l) s= .ok t1 s1 from h);have ho:ops[i]? =some o:=by
    have:(ops.toList.drop i)[0]? =some o:=by rw[kV];rfl
    rw[List.getElem?_drop] at this;simpa using this
   have af1:ops.toList.drop (i+1)=l:=by rw[←List.drop_drop,kV];rfl
   have kX:s.nx<=s2.nx:=(YF.gM P hl nt ops o t).le ax.cm h1;have dz:bB s2:=(YF.gM P hl nt ops o t).cm ax.cm h1;have pP:s2.nx<=s1.nx:=(YF.jf P hl nt ops l t2).le dz h2;obtain⟨σ,a',w',e1,e2,e3,e4,e5⟩:=Tp hc hl ho ax (hf.sub (Nat.le_refl _) pP) h1 b k cs<|List.range' (i+1) n;obtain⟨τ,GP,ni,f1,f2,f3,f4,f5⟩:=MU hc hl b k cs n (i+1) l (by simpa using hn) af1 e2 (hf.next kX e1) h2;exact⟨τ,GP,ni,e1.trans kX pP f1,f2,f3.trans e3,e4.trans f4,by rw[List.range'_succ];exact Steps.trans e5 f5⟩
theorem ZP{id:Nat}(hc:fQ P B YG)(hl:∀t a,YF<|YG t a)(ax:At B ρ s nt t w a)(hf:dA s.nx s1.nx ρ)(h:jf P YG nt ops ops.toList t s= .ok t1 s1)(b:Frame)(k:List Item)(cs:List Frame):
 DC P B ρ s s1 nt t1 w a (lone (b.atR a<|.code (.region id ops false)::k) cs w) (fun a' w'=>lone (b.atR a' k) cs w'):=by
 obtain⟨σ,a',w',e1,e2,e3,e4,e5⟩:=MU hc hl b k cs ops.size 0 ops.toList jF jF ax hf h;exact⟨σ,a',w',e1,e2,e3,e4,.head stepR_region (by rw[List.range_eq_range'];exact e5)⟩
end
end Go.Rn
namespace Go.Rn
open Go.RowKit
variable {listed:Array Bool} {i:Nat}
def oh(acc:Array Nat)(o:Oper):Nat:=o.after.foldl (fun s e=>if Region.binds .any e then s|||2 ^ e.on|||acc.getD e.on 0 else s) 0
theorem Rw(acc:Array Nat)(o:Oper)(i:Nat):(oh acc o).testBit i=true↔∃e∈o.after.toList,Region.binds .any e=true/\(e.on=i\/(acc.getD e.on 0).testBit i=true):=by
 unfold oh;rw[←Array.foldl_toList];have:∀(l:List Edge) (s:Nat),(l.foldl (fun s e=>if Region.binds .any e then s|||2 ^ e.on|||acc.getD e.on 0 else s) s).testBit i=true↔
  s.testBit i=true\/∃e∈l,Region.binds .any e=true/\(e.on=i\/(acc.getD e.on 0).testBit i=true):=by
  intro l;induction l with
  |nil=>intro s;simp
  |cons e l ih=>
   intro s;rw[List.foldl_cons,ih];by_cases q:Region.binds .any e=true
   ·rw[if_pos q];simp only[Nat.testBit_or,Bool.or_eq_true,Nat.testBit_two_pow,decide_eq_true_eq,List.mem_cons,exists_eq_or_imp,q,true_and];constructor
    ·rintro ((h|h)|h)
     ·rcases h with h|h
      ·exact .inl h
      ·exact .inr<|.inl<|.inl h
     ·exact .inr<|.inl<|.inr h
     ·exact .inr<|.inr h
    ·rintro (h|(h|h)|h)
     ·exact .inl<|.inl<|.inl h
     ·exact .inl<|.inl<|.inr h
     ·exact .inl<|.inr h
     ·exact .inr h
   ·rw[if_neg q];simp only[List.mem_cons,exists_eq_or_imp,q,false_and,false_or,Bool.false_eq_true]
 have h:=this o.after.toList 0;simpa using h
theorem LL(l:List Oper):∀(acc:Array Nat),(l.foldl (fun acc o=>acc.push<|oh acc o) acc).size=acc.size+l.length/\
 (∀k,k<acc.size->(l.foldl (fun acc o=>acc.push<|oh acc o) acc).getD k 0=acc.getD k 0):=by
 induction l with
 |nil=>intro acc;exact⟨by simp,fun k _=>rfl⟩
 |cons o l ih=>intro acc;rw[List.foldl_cons];obtain⟨h1,h2⟩:=ih<|acc.push<|oh acc o;refine⟨by rw[h1];simp;omega,fun k hk=>?_⟩;rw[h2 k vS];simp only[Array.getD_eq_getD_getElem?,Array.getElem?_push];rw[if_neg aj]
theorem SF{ops:Array Oper}{j:Nat}{o:Oper}(ho:ops[j]? =some o):
 (Region.before ops).getD j 0=oh ((ops.toList.take j).foldl (fun acc o=>acc.push<|oh acc o) #[]) o/\
 ∀k,k<j->((ops.toList.take j).foldl (fun acc o=>acc.push<|oh acc o) #[]).getD k 0=(Region.before ops).getD k 0:=by
 have hb:Region.before ops=ops.toList.foldl (fun acc o=>acc.push<|oh acc o) #[]:=by unfold Region.before;rw[←Array.foldl_toList];rfl
 have hj:j<ops.toList.length:=by have:=(Array.getElem?_eq_some_iff.1 ho).1;simpa using this
 have kE:ops.toList[j]? =some o:=by simpa using ho
 have aeC:ops.toList=ops.toList.take j++o::ops.toList.drop (j+1):=by
  have e:ops.toList.drop j=o::ops.toList.drop (j+1):=by rw[List.drop_eq_getElem_cons hj];congr 1;rw[List.getElem?_eq_getElem hj] at kE;injection kE
  rw[←e,List.take_append_drop]
 obtain⟨s1,_⟩:=LL (ops.toList.take j) #[];have kr:((ops.toList.take j).foldl (fun acc o=>acc.push<|oh acc o) #[]).size=j:=by rw[s1,List.length_take,Nat.min_eq_left aj];exact Nat.zero_add j
 generalize hA:(ops.toList.take j).foldl (fun acc o=>acc.push<|oh acc o) #[]=A at*;have ye:Region.before ops=(ops.toList.drop<|j+1).foldl (fun acc o=>acc.push<|oh acc o) (A.push<|oh A o):=by
  rw[hb]
  conv=>lhs;rw[aeC]
  rw[List.foldl_append,hA,List.foldl_cons]
 obtain⟨_,q2⟩:=LL (ops.toList.drop<|j+1)<|A.push<|oh A o;refine⟨?_,fun k hk=>?_⟩
 ·rw[ye,q2 j vS];rw[Array.getD_eq_getD_getElem?,Array.getElem?_push,if_pos kr.symm];rfl
 ·rw[ye,q2 k vS];simp only[Array.getD_eq_getD_getElem?,Array.getElem?_push];rw[if_neg aj]
theorem RL(ops:Array Oper):(Region.before ops).size=ops.size:=by
 have hb:Region.before ops=ops.toList.foldl (fun acc o=>acc.push<|oh acc o) #[]:=by unfold Region.before;rw[←Array.foldl_toList];rfl
 rw[hb,(LL ops.toList #[]).1];simp
theorem YX{ops:Array Oper}(he:Ix ops)(D:Nat->Prop)(hD:∀(j:Nat) (o:Oper) (e:Edge),ops[j]? =some o->D j->e∈o.after->Region.binds .any e=true->D e.on):
 ∀(n j i:Nat),j<=n->((Region.before ops).getD j 0).testBit i=true->i<j/\(D j->D i)/\((∀(o:Oper) (e:Edge),ops[j]? =some o->e∈o.after->Region.binds .any e=true->D e.on)->D i):=by
 intro n;induction n with
 |zero=>
  intro j i hj h;have:j=0:=by omega
  subst this;cases ho:ops[0]? with
  |none=>
   have:¬0<(Region.before ops).size:=by rw[RL];intro q;rw[Array.getElem?_eq_getElem q] at ho;cases ho
   rw[Array.getD_eq_getD_getElem?,Array.getElem?_eq_none aj] at h;simp at h
  |some o=>obtain⟨h1,_⟩:=SF ho;rw[h1,Rw] at h;obtain⟨e,hm,BO,_⟩:=h;exact absurd (he 0 o e ho (Array.mem_toList_iff.1 hm) BO)<|Nat.not_lt_zero _
 |succ n ih=>
  intro j i hj h;by_cases q:j<=n
  ·exact ih j i q h
  ·have:j=n+1:=by omega
   subst this;cases ho:ops[n+1]? with
   |none=>
    have:¬n+1<(Region.before ops).size:=by rw[RL];intro q;rw[Array.getElem?_eq_getElem q] at ho;cases ho
    rw[Array.getD_eq_getD_getElem?,Array.getElem?_eq_none aj] at h;simp at h
   |some o=>
    obtain⟨h1,h2⟩:=SF ho;rw[h1,Rw] at h;obtain⟨e,hm,BO,cP⟩:=h;have eY:=Array.mem_toList_iff.1 hm;have bZ:=he (n+1) o e ho eY BO;rcases cP with rfl|cP
    ·exact⟨bZ,fun Qe=>hD _ o e ho Qe eY BO,fun dJ=>dJ o e rfl eY BO⟩
    ·rw[h2 e.on bZ] at cP;obtain⟨a,b,_⟩:=ih e.on i aj cP;exact⟨by omega,fun Qe=>b<|hD _ o e ho Qe eY BO,fun dJ=>b<|dJ o e rfl eY BO⟩
def open_(listed:Array Bool):Nat:=(List.range listed.size).countP fun i=> !listed.getD i true
theorem aau{n:Nat}{p q:Nat->Bool}(hi:i<n)(hp:p i=true)(hq:q i=false)(cf:∀k,k≠i->q k=p k):(List.range n).countP q<(List.range n).countP p:=by
 induction n with
 |zero=>omega
 |succ n ih=>
  rw[List.range_succ,List.countP_append,List.countP_append];by_cases e:i=n
  ·subst e;have:(List.range i).countP q=(List.range i).countP p:=by
    apply List.countP_congr;intro k hk;have:k≠i:=by have:=List.mem_range.1 hk;omega
    rw[cf k this]
   rw[this];simp[hp,hq]
  ·have:=ih aj;have e2:(List.countP q [n])=List.countP p [n]:=by simp[List.countP_cons,cf n<|Ne.symm e]
   rw[e2];omega
theorem abE(hi:listed.getD i true=false):open_ (listed.setIfInBounds i true)<open_ listed:=by
 have bZ:i<listed.size:=by
  rcases Nat.lt_or_ge i listed.size with q|q
  ·exact q
  ·rw[Array.getD_eq_getD_getElem?,Array.getElem?_eq_none q] at hi;cases hi
 unfold open_;rw[Array.size_setIfInBounds];refine aau bZ (by simp[hi]) ?_ fun k hk=>?_
 ·simp[Array.getD_eq_getD_getElem?,Array.getElem?_setIfInBounds_self_of_lt bZ]
 ·simp only[Array.getD_eq_getD_getElem?];rw[Array.getElem?_setIfInBounds_ne aj]
theorem aav(h:open_ listed=0):∀i,i<listed.size->listed.getD i false=true:=by intro i hi;unfold open_ at h;rw[List.countP_eq_zero] at h;have:=h i<|List.mem_range.2 hi;rw[Array.getD_eq_getD_getElem?,Array.getElem?_eq_getElem hi] at this ⊢;simpa using this
theorem ZQ{ops:Array Oper}(he:Ix ops)(hs:listed.size=ops.size)(hr:Region.ready .any ops listed=[]):∀n i,i<n->i<ops.size->listed.getD i false=true:=by
 intro n;induction n with
 |zero=>intro i hi;omega
 |succ n ih=>
  intro i hi bZ;by_cases q:i<n
  ·exact ih i q bZ
  ·have:i=n:=by omega
   subst this;cases h:listed.getD i false with
   |true=>rfl
   |false=>
    exfalso;have qv:i∈Region.ready .any ops listed:=by
     unfold Region.ready;rw[List.mem_filter];refine⟨List.mem_range.2 bZ,?_⟩;have h1:listed.getD i true=false:=by rw[Array.getD_eq_getD_getElem?,Array.getElem?_eq_getElem aj] at h ⊢;simpa using h
     rw[h1,Array.getElem?_eq_getElem bZ];simp only[Bool.not_false,Bool.true_and,Option.map_some,Option.getD_some];rw[Array.all_eq_true_iff_forall_mem];intro e hm;cases hb:Region.binds .any e with
     |false=>rfl
     |true=>have ahI:=he i ops[i] e (Array.getElem?_eq_getElem bZ) hm hb;simp only[Bool.not_true,Bool.false_or];exact ih e.on ahI aj
    rw[hr] at qv;cases qv
section
variable {P:Program} {ops:Array Oper}
theorem aaw(he:Ix ops)(b:Frame)(k:List Item)(cs:List Frame)(Inv:Array Bool->Act->World->Prop)(af2:∀(listed:Array Bool) (a:Act) (w:World) (i:Nat) (o:Oper) (rest:List Nat),listed.size=ops.size->Inv listed a w->ops[i]? =some o->listed.getD i true=false->
 (∀e∈o.after,Region.binds .any e=true->listed.getD e.on false=true)->
 ∃a' w',Inv (listed.setIfInBounds i true) a' w'/\Steps P (lone (b.atR a<|.inRegion ops (i::rest)::k) cs w) (lone (b.atR a'<|.inRegion ops rest::k) cs w')):
 ∀(fuel t:Nat) (listed:Array Bool) (a:Act) (w:World),listed.size=ops.size->open_ listed<=fuel->Inv listed a w->∃AB a' w',AB.size=ops.size/\(∀i,i<ops.size->AB.getD i false=true)/\Inv AB a' w'/\Steps P (lone (b.atR a<|.inRegion ops (Region.linearise.go .any ops fuel t listed [])::k) cs w) (lone (b.atR a' k) cs w'):=by
 intro fuel;induction fuel with
 |zero=>
  intro t listed a w hs ho hi;refine⟨listed,a,w,hs,?_,hi,?_⟩
  ·intro i bZ;exact aav aj i aj
  ·simp only[Region.linearise.go,List.reverse_nil];exact .one stepR_region_end
 |succ fuel ih=>
  intro t listed a w hs ho hi;simp only[Region.linearise.go];change ∃AB a' w',AB.size=ops.size/\(∀i,i<ops.size->AB.getD i false=true)/\Inv AB a' w'/\
   Steps P (lone (b.atR a<|.inRegion ops (match (Region.ready .any ops listed)[t % (Region.ready .any ops listed).length]? with
    |some i=>Region.linearise.go .any ops fuel (t / (Region.ready .any ops listed).length) (listed.setIfInBounds i true) [i]
    |none=>[].reverse)::k) cs w) (lone (b.atR a' k) cs w')
  cases hq:(Region.ready .any ops listed)[t % (Region.ready .any ops listed).length]? with
  |none=>
   have J3:Region.ready .any ops listed=[]:=by
    cases hr:Region.ready .any ops listed with
    |nil=>rfl
    |cons x xs=>rw[hr] at hq;have bZ:t % (x::xs).length<(x::xs).length:=Nat.mod_lt _ jF;simp at hq;simp at bZ;omega
   refine⟨listed,a,w,hs,fun i bZ=>ZQ he hs J3 (i+1) i aj bZ,hi,?_⟩;simp only[List.reverse_nil];exact .one stepR_region_end
  |some i=>
   simp only[];have qv:=List.mem_of_getElem? hq;unfold Region.ready at qv;rw[List.mem_filter,Bool.and_eq_true] at qv;obtain⟨bZ,h1,h2⟩:=qv;have ahJ:=List.mem_range.1 bZ;have Xu:ops[i]? =some ops[i]:=Array.getElem?_eq_getElem ahJ;rw[Xu] at h2;simp only[Option.map_some,Option.getD_some] at h2;rw[Array.all_eq_true_iff_forall_mem] at h2;have x8:listed.getD i true=false:=by simpa using h1
   rw[linearise_go_acc,List.reverse_singleton,List.singleton_append];obtain⟨a',w',j1,j2⟩:=af2 listed a w i ops[i] (Region.linearise.go .any ops fuel (t / (Region.ready .any ops listed).length) (listed.setIfInBounds i true) []) hs hi Xu x8 (fun e hm hb=>by have:=h2 e hm;rw[hb] at this;simpa using this);obtain⟨l',GP,ni,k0,k1,k2,k3⟩:=ih (t / (Region.ready .any ops listed).length) (listed.setIfInBounds i true) a' w' (by simp[hs]) (by have:=abE x8;omega) j1;exact⟨l',GP,ni,k0,k1,k2,Steps.trans j2 k3⟩
theorem abF(n:Nat):open_ (Array.replicate n false)<=n:=by unfold open_;have:=List.countP_le_length (p:=fun i=> !(Array.replicate n false).getD i true) (l:=List.range (Array.replicate n false).size);simpa using this
end
end Go.Rn
namespace Go.Rn
open Go.RowKit
variable {g f:Operand->Option AV}
section
variable {P:Program} {YG:aK} {t u:Tr AV}
theorem HE:∀{l:List Operand},(∀y∈l,f y=g y)->jS f l=jS g l
 |[],_=>rfl
 |y::l,h=>by simp only[jS,h y List.mem_cons_self,HE fun z hz=>h z<|List.mem_cons_of_mem _ hz]
theorem LN:∀{l:List<|Nat×Operand},(∀y∈l,f y.2=g y.2)->ve f l=ve g l
 |[],_=>rfl
 |(i,y)::l,h=>by simp only[ve,h (i,y) List.mem_cons_self,LN fun z hz=>h z<|List.mem_cons_of_mem _ hz]
theorem Mk{y:Option Operand}(h:∀z,y=some z->f z=g z):opt f y=opt g y:=by
 cases y with
 |none=>rfl
 |some z=>simp only[opt,h z rfl]
theorem aax{op:Op}(h:∀y∈op.operands,aH t y=aH u y):(du P op).val YG t=(du P op).val YG u:=by
 cases op
 case move y=>show vg y YG t=vg y YG u;simp only[vg,h y fS]
 case assign y=>show vg y YG t=vg y YG u;simp only[vg,h y fS]
 case pick c p q=>show Bc c p q YG t=Bc c p q YG u;simp only[Bc,h c fS,h p fS,h q fS]
 case alloc e=>rfl
 case box e y=>show Bk y YG t=Bk y YG u;simp only[Bk,h y fS]
 case build ty parts=>show AP P ty parts.toList YG t=AP P ty parts.toList YG u;simp only[AP,LN (f:=aH t) (g:=aH u) (l:=parts.toList) fun y hy=>h y.2 (by simp only[Op.operands,List.mem_toArray];exact List.mem_map_of_mem hy)]
 case buildSlice ty len parts=>show Ae P ty len parts.toList YG t=Ae P ty len parts.toList YG u;simp only[Ae,LN (f:=aH t) (g:=aH u) (l:=parts.toList) fun y hy=>h y.2 (by simp only[Op.operands,List.mem_toArray];exact List.mem_map_of_mem hy)]
 case load ty y=>show ti P ty y YG t=ti P ty y YG u;simp only[ti,h y fS]
 case store ty y z=>show xe P ty y z YG t=xe P ty y z YG u;simp only[xe,h y fS,h z fS]
 case nilCheck y=>show Ah y YG t=Ah y YG u;simp only[Ah,h y fS]
 case binOp op ty y z v=>show oQ P op ty y z YG t=oQ P op ty y z YG u;simp only[oQ,h y fS,h z fS]
 case unOp op ty y=>show BH op y YG t=BH op y YG u;simp only[BH,h y fS]
 case convert src dst y=>show Ao P src dst y YG t=Ao P src dst y YG u;simp only[Ao,h y fS]
 case makeInterface ty y=>show Cj P ty y YG t=Cj P ty y YG u;simp only[Cj,h y fS]
 case makeFunc fn first captured=>show Ai fn first.toList captured.toList YG t=Ai fn first.toList captured.toList YG u;simp only[Ai,HE (f:=aH t) (g:=aH u) (l:=first.toList) fun y hy=>h y (by simp only[Op.operands,Array.mem_append];exact .inl<|Array.mem_toList_iff.1 hy),HE (f:=aH t) (g:=aH u) (l:=captured.toList) fun y hy=>h y (by simp only[Op.operands,Array.mem_append];exact .inr<|Array.mem_toList_iff.1 hy)]
 case makeMap ty y=>
  cases y with
  |none=>rfl
  |some y=>show Ap P ty (some y) YG t=Ap P ty (some y) YG u;simp only[Ap,h y fS]
 case makeSlice ty l c=>show Af P ty l c YG t=Af P ty l c YG u;simp only[Af,h l fS,h c fS]
 case slice ty y lo hi mx=>show sO P ty y lo hi mx YG t=sO P ty y lo hi mx YG u;simp only[sO,h y fS,Mk (f:=aH t) (g:=aH u) (y:=lo) (fun z hz=>h z<|by simp[Op.operands,hz]),Mk (f:=aH t) (g:=aH u) (y:=hi) (fun z hz=>h z<|by simp[Op.operands,hz]),Mk (f:=aH t) (g:=aH u) (y:=mx) fun z hz=>h z<|by simp[Op.operands,hz]]
 case fieldAddr ty y f=>show Ag P ty y f YG t=Ag P ty y f YG u;simp only[Ag,h y fS]
 case field ty y f=>show AQ P ty y f YG t=AQ P ty y f YG u;simp only[AQ,h y fS]
 case indexAddr ty y z=>show p6 P ty y z YG t=p6 P ty y z YG u;simp only[p6,h y fS,h z fS]
 case index ty y z=>show AR P ty y z YG t=AR P ty y z YG u;simp only[AR,h y fS,h z fS]
 case lookup ty y z ok=>show wR P ty y z ok YG t=wR P ty y z ok YG u;simp only[wR,h y fS,h z fS]
 case mapUpdate ty m k y=>show p8 P ty m k y YG t=p8 P ty m k y YG u;simp only[p8,h m fS,h k fS,h y fS]
 case insert ty m k y=>show p8 P ty m k y YG t=p8 P ty m k y YG u;simp only[p8,h m fS,h k fS,h y fS]
 case typeAssert y xt asserted ok=>show CH P asserted ok y YG t=CH P asserted ok y YG u;simp only[CH,h y fS]
 case range ty y=>show AT P ty y YG t=AT P ty y YG u;simp only[AT,h y fS]
 case entry y=>show AU y YG t=AU y YG u;simp only[AU,h y fS]
 case next y Qd=>
  cases Qd with
  |true=>show Cw y YG t=Cw y YG u;simp only[Cw,h y fS]
  |false=>rfl
 case extract y i=>show Aq y i YG t=Aq y i YG u;simp only[Aq,h y fS]
 case call c=>
  obtain⟨callee,args,ts⟩:=c;have ha:∀(cl:Callee),(∀y∈(Op.call ⟨cl,args,ts⟩).operands,aH t y=aH u y)->jS (aH t) args.toList=jS (aH u) args.toList:=fun cl hh=>HE fun y hy=>hh y (by simp only[Op.operands,Call.operands,Array.mem_append];exact .inr<|Array.mem_toList_iff.1 hy);cases callee with
  |builtin b=>show og P b ts args.toList YG t=og P b ts args.toList YG u;simp only[og,ha _ h]
  |value f=>show tj f args.toList YG t=tj f args.toList YG u;simp only[tj,ha _ h,h f<|by simp[Op.operands,Call.operands]]
  |invoke r name=>rfl
 all_goals rfl
theorem abG{y:Operand}(h:∀d,y= .tmp d->t.get d=u.get d):aH t y=aH u y:=by
 cases y with
 |tmp d=>show t.get d=u.get d;rw[h d rfl]
 |_=>rfl
theorem R2{nt:Nat}{ops:Array Oper}{o:Oper}(h:∀d∈o.looksAt ops,t.get d=u.get d){s s1:AS}{t1:Tr AV}(hr:gM P YG nt ops o t s= .ok t1 s1):
 ∃v,je nt t o.dst v=some t1/\∀u1,je nt u o.dst v=some u1->gM P YG nt ops o u s= .ok u1 s1:=by
 have eV:(du P o.op).val YG t=(du P o.op).val YG u:=aax fun y hy=>abG fun d hd=>h d (by unfold Oper.looksAt;refine List.mem_append_left _<|List.mem_filterMap.2 ⟨y,Array.mem_toList_iff.2 hy,by rw[hd]⟩);have main:rL (du P o.op) o.dst YG nt t s= .ok t1 s1->∃v,je nt t o.dst v=some t1/\∀u1,je nt u o.dst v=some u1->rL (du P o.op) o.dst YG nt u s= .ok u1 s1:=by intro hk;unfold rL at hk;obtain⟨v,s2,h1,h2⟩:=M.aN hk;obtain⟨h3,rfl⟩:=gT h2;refine⟨v,h3,fun u1 hu=>?_⟩;unfold rL;rw[←eV,M.bK h1];unfold lift;rw[hu]
 unfold gM Bd at hr ⊢;cases hg:o.guard with
 |none=>rw[hg] at hr;exact main hr
 |some g=>
  rw[hg] at hr;have j8:tq ops g (du P o.op) o.dst YG nt t s= .ok t1 s1:=hr;have hw:p9 ops g t=p9 ops g u:=by
   unfold p9 EX;cases e1:ops[g.1]? with
   |none=>rfl
   |some q=>
    simp only;cases e2:q.dst with
    |none=>rfl
    |some d=>simp only;rw[h d (by unfold Oper.looksAt;refine List.mem_append_right _ ?_;rw[hg];simp[e1,e2])]
  have jl:sP ops t g.1=sP ops u g.1:=by
   unfold sP;cases e1:ops[g.1]? with
   |none=>rfl
   |some q=>
    simp only;cases e2:q.dst with
    |none=>rfl
    |some d=>simp only;rw[h d (by unfold Oper.looksAt;refine List.mem_append_right _ ?_;rw[hg];simp[e1,e2])]
  show ∃v,je nt t o.dst v=some t1/\∀u1,je nt u o.dst v=some u1->tq ops g (du P o.op) o.dst YG nt u s= .ok u1 s1;unfold tq at j8 ⊢;obtain⟨hk,j8⟩:=cV j8;rw[←hw, ←jl,hk,dq];cases q:p9 ops g t with
  |true=>rw[q] at j8;exact main j8
  |false=>rw[q] at j8;obtain⟨h3,rfl⟩:=gT (show lift (je nt t o.dst om) s= .ok t1 s1 from j8);refine⟨om,h3,fun u1 hu=>?_⟩;show lift (je nt u o.dst om) s1= .ok u1 s1;unfold lift;rw[hu]
end
end Go.Rn
namespace Go.Rn
open Go.RowKit
variable {b:Array Nat}
theorem Rel.congr{B:aJ}{ρ:Ren}{h h':Tr ae}{w:World}(r:Rel B ρ h w)(e:∀m,m<top->h'.get m=h.get m):Rel B ρ h' w:=by
 refine⟨fun n o hn hg=>r.is n o hn (by rw[←e n hn];exact hg),fun n m o p b N M hn hm h1 h2 cP=>r.one n m o p b N M hn hm (by rw[←e n hn];exact h1) (by rw[←e m hm];exact h2) cP,fun n m es ex left cur hn h1=>?_,r.size,
  fun i j m es ex left cur gY iU iH iJ hi hj h1 h2=>r.lone i j m es ex left cur gY iU iH iJ hi hj (by rw[←e i hi];exact h1) (by rw[←e j hj];exact h2),
  r.fz.of (Ren.le_refl _) (fun _ _ _=>rfl) (fun b1 _ hn=>hn.sub fun m q hm hq gZ=>⟨q,by rw[←e m hm];exact hq,gZ⟩),
  r.tk.of (Ren.le_refl _) (fun n q hn hq _=>by rw[←e n hn];exact hq) (Nat.le_refl _) (fun _ _ _=>rfl) (fun b1 _ hn=>hn.sub fun m q hm hq gZ=>⟨q,by rw[←e m hm];exact hq,gZ⟩) (fun _ _ _ _ _ e=>e)⟩
 obtain⟨a,b,c⟩:=r.iter n m es ex left cur hn (by rw[←e n hn];exact h1);exact⟨a,by rw[e m a];exact b,c⟩
theorem Ri{x:Met}:∀{all:List Met},sj b x all=true->∀y∈all,x.i=y.i\/sQ x y=true\/loose b x.i y.i=false
 |[],_,y,hy=>by cases hy
 |z::l,h,y,hy=>by
  simp only[sj] at h;cases q:(Nat.beq x.i z.i||(sQ x z|| !loose b x.i z.i)) with
  |false=>rw[q] at h;cases h
  |true=>
   rw[q] at h;rcases List.mem_cons.1 hy with rfl|hy
   ·simp only[Bool.or_eq_true,Bool.not_eq_true'] at q;rcases q with q|q|q
    ·exact .inl<|ey.1 q
    ·exact .inr<|.inl q
    ·exact .inr<|.inr q
   ·exact Ri h y hy
theorem SG{all:List Met}:∀{l:List Met},qf b all l=true->∀x∈l,sR x=true\/sj b x all=true
 |[],_,x,hx=>by cases hx
 |z::l,h,x,hx=>by
  simp only[qf] at h;cases q:(sR z||sj b z all) with
  |false=>rw[q] at h;cases h
  |true=>
   rw[q] at h;rcases List.mem_cons.1 hx with rfl|hx
   ·exact Bool.or_eq_true_iff.1 q
   ·exact SG h x hx
theorem RM{m:List Nat}:∀{l:List Nat},meets l m=false->∀x∈l,x ∉ m
 |[],_,x,hx=>by cases hx
 |z::l,h,x,hx=>by
  simp only[meets] at h;cases q:Bl z m with
  |true=>rw[q] at h;cases h
  |false=>
   rw[q] at h;rcases List.mem_cons.1 hx with rfl|hx
   ·intro e;rw[H7.2 e] at q;cases q
   ·exact RM h x hx
theorem RN{lo hi:Nat}:∀{l:List Nat},yZ lo hi l=false->∀x∈l,¬(lo<=x/\x<hi)
 |[],_,x,hx=>by cases hx
 |z::l,h,x,hx=>by
  simp only[yZ] at h;cases q:(Nat.ble lo z&&Nat.blt z hi) with
  |true=>rw[q] at h;cases h
  |false=>
   rw[q] at h;rcases List.mem_cons.1 hx with rfl|hx
   ·rintro ⟨h1,h2⟩;rw[show Nat.ble lo x=true from aL.2 h1,show Nat.blt x hi=true from(blt_eq _ _).mpr h2] at q;cases q
   ·exact RN h x hx
section
variable {P:Program} {YG:aK} {ops:Array Oper} {nt:Nat}
structure Pw (P:Program) (YG:aK) (ops:Array Oper) (nt:Nat) (H:Nat->Tr ae) (N:Nat->Nat) (T:Nat->Tr AV) (k:Nat) (o:Oper) (x:Met) (s1:AS):Prop where
 lo:x.lo=N k
 hi:x.hi=N (k+1)
 run:gM P YG nt ops o (T k) ⟨H k,N k,N k,[],[]⟩= .ok (T<|k+1) s1
 h:s1.h=H (k+1)
 nx:s1.nx=N (k+1)
 rd:x.rd=below (N k) s1.rd
 wr:x.wr=below (N k) s1.wr
theorem SH(hl:∀t a,YF<|YG t a):∀(l:List Oper) (i:Nat) {t t':Tr AV} {s s':AS} {ms:List Met},bB s->mW P YG nt ops l i t s= .ok (t',ms) s'->
 bB s'/\∃(H:Nat->Tr ae) (N:Nat->Nat) (T:Nat->Tr AV),H 0=s.h/\N 0=s.nx/\T 0=t/\H l.length=s'.h/\N l.length=s'.nx/\T l.length=t'/\(∀k,k<=l.length->N k<=top)/\∀k o,l[k]? =some o->∃x s1,ms[k]? =some x/\x.i=i+k/\Pw P YG ops nt H N T k o x s1
 |[],i,t,t',s,s',ms,fi,h=>by obtain⟨e,rfl⟩:=bA (show M.pure (t,[]) s= .ok (t',ms) s' from h);cases e;exact⟨fi,fun _=>s'.h,fun _=>s'.nx,fun _=>t,rfl,rfl,rfl,rfl,rfl,rfl,fun _ _=>fi.nx,fun k o h=>by simp at h⟩
 |o::l,i,t,t',s,s',ms,fi,h=>by
  obtain⟨x,s2,h1,h2⟩:=M.aN (show((alone i<|gM P YG nt ops o t).bind fun x=>(mW P YG nt ops l (i+1) x.1).bind fun y=>M.pure (y.1,x.2::y.2)) s= .ok (t',ms) s' from h);obtain⟨y,s3,h3,h4⟩:=M.aN h2;obtain⟨e,rfl⟩:=bA h4;cases e;obtain⟨a,s1,g1,rfl,rfl⟩:=Sw h1;have Qf:bB s1:=(YF.gM P hl nt ops o t).cm (s:=⟨s.h,s.nx,s.nx,[],[]⟩) ⟨Nat.le_refl _,fi.nx⟩ g1;have fle:s.nx<=s1.nx:=(YF.gM P hl nt ops o t).le (s:=⟨s.h,s.nx,s.nx,[],[]⟩) ⟨Nat.le_refl _,fi.nx⟩ g1;have dz:bB ⟨s1.h,s1.nx,s.mark,below s.mark s1.rd++s.rd,below s.mark s1.wr++s.wr⟩:=⟨Nat.le_trans fi.mark fle,Qf.nx⟩;obtain⟨f3,H,N,T,a1,a2,a3,a4,a5,a6,a7,a8⟩:=SH hl l (i+1) (t':=y.1) (ms:=y.2) dz h3;refine⟨f3,fun k=>match k with|0=>s.h|k+1=>H k,fun k=>match k with|0=>s.nx|k+1=>N k,fun k=>match k with|0=>t|k+1=>T k,rfl,rfl,rfl,a4,a5,a6,?_,?_⟩
  ·intro k hk;cases k with
   |zero=>exact fi.nx
   |succ k=>exact a7 k (by simpa using hk)
  ·intro k o2 hk;cases k with
   |zero=>simp only[List.getElem?_cons_zero,Option.some.injEq] at hk;subst hk;refine⟨_,s1,rfl,rfl,⟨rfl,a2.symm,?_,a1.symm,a2.symm,rfl,rfl⟩⟩;show gM P YG nt ops o t ⟨s.h,s.nx,s.nx,[],[]⟩= .ok (T 0) s1;rw[a3];exact g1
   |succ k=>simp only[List.getElem?_cons_succ] at hk;obtain⟨x,s4,b1,b2,b3⟩:=a8 k o2 hk;exact⟨x,s4,by simpa using b1,by rw[b2];omega,⟨b3.lo,b3.hi,b3.run,b3.h,b3.nx,b3.rd,b3.wr⟩⟩
structure Text (P:Program) (YG:aK) (ops:Array Oper) (nt:Nat) (H:Nat->Tr ae) (N:Nat->Nat) (T:Nat->Tr AV) (Rd Wr:Nat->Nat->Prop):Prop where
 top:∀k,k<=ops.size->N k<=Rn.top
 up:∀k,k<ops.size->N k<=N (k+1)
 mK:∀k m,k<ops.size->¬Wr k m->m<Rn.top->(H<|k+1).get m=(H k).get m
 made:∀k m,k<ops.size->N k<=m->m<N (k+1)->Wr k m
 wrote:∀k m,k<ops.size->Wr k m->m<N (k+1)/\(m<N k->Rd k m)
 slot:∀k o d,ops[k]? =some o->o.dst≠some d->(T<|k+1).get d=(T k).get d
 apart:∀i j m,i<ops.size->j<ops.size->i≠j->loose (Region.before ops) i j=true->Wr i m->¬Rd j m
 again:∀j o,ops[j]? =some o->∀(h:Tr ae),(∀m,m<Rn.top->Rd j m->h.get m=(H j).get m)->∃t1,gM P YG nt ops o (T j) ⟨h,N j,N j,[],[]⟩= .ok (T<|j+1) t1/\t1.nx=N (j+1)/\
  (∀m,Wr j m->t1.h.get m=(H<|j+1).get m)/\(∀m,¬Wr j m->m<Rn.top->t1.h.get m=h.get m)
theorem acS(hl:∀t a,YF<|YG t a)(iV:nt<=top){t t':Tr AV}{s s':AS}{ms:List Met}(fi:bB s)(h:mW P YG nt ops ops.toList 0 t s= .ok (t',ms) s')(hm:qf (Region.before ops) ms ms=true):
 bB s'/\∃(H:Nat->Tr ae) (N:Nat->Nat) (T:Nat->Tr AV) (Rd Wr:Nat->Nat->Prop),H 0=s.h/\N 0=s.nx/\T 0=t/\H ops.size=s'.h/\N ops.size=s'.nx/\T ops.size=t'/\Text P YG ops nt H N T Rd Wr:=by
 obtain⟨f',H,N,T,a1,a2,a3,a4,a5,a6,a7,a8⟩:=SH hl ops.toList 0 fi h;have hlen:ops.toList.length=ops.size:=by simp
 rw[hlen] at a4 a5 a6 a7;refine⟨f',H,N,T,fun k m=>∃x,ms[k]? =some x/\m∈x.rd,fun k m=>∃x,ms[k]? =some x/\(m∈x.wr\/(N k<=m/\m<N (k+1))),a1,a2,a3,a4,a5,a6,?_⟩;have ak:∀k,k<ops.size->∃o x s1,ops[k]? =some o/\ms[k]? =some x/\x.i=k/\Pw P YG ops nt H N T k o x s1:=by
  intro k hk;have ho:ops.toList[k]? =some ops[k]:=by simp[hk]
  obtain⟨x,s1,b1,b2,b3⟩:=a8 k _ ho;exact⟨ops[k],x,s1,Array.getElem?_eq_getElem hk,b1,by omega,b3⟩
 have KL:∀k,k<ops.size->∀o x s1,Pw P YG ops nt H N T k o x s1->∃dr dw,Kw ⟨H k,N k,N k,[],[]⟩ s1 dr dw/\
  (∀A m0 t,OU A m0 ⟨H k,N k,N k,[],[]⟩ t->(∀q∈dr,q<m0->A q)->∃t1,gM P YG nt ops o (T k) t= .ok (T<|k+1) t1/\Wx A m0 s1 t t1 dr dw)/\(∀m,m∈x.rd↔m∈dr/\m<N k)/\(∀m,m∈x.wr↔m∈dw/\m<N k):=by
  intro k hk o x s1 hd;obtain⟨dr,dw,d1,d2⟩:=YF.gM P hl nt ops o (T k) _ _ _ ⟨Nat.le_refl _,a7 k aj⟩ hd.run;refine⟨dr,dw,d1,d2,fun m=>?_,fun m=>?_⟩
  ·rw[hd.rd,wE,d1.rd];simp
  ·rw[hd.wr,wE,d1.wr];simp
 refine⟨a7,?_,?_,?_,?_,?_,?_,?_⟩
 ·intro k hk;obtain⟨o,x,s1,_,_,_,hd⟩:=ak k hk;obtain⟨dr,dw,d1,_⟩:=KL k hk o x s1 hd;have:=d1.nx;rw[hd.nx] at this;exact this
 ·intro k m hk hw j9;obtain⟨o,x,s1,_,hx,_,hd⟩:=ak k hk;obtain⟨dr,dw,d1,_,_,d4⟩:=KL k hk o x s1 hd;rw[←hd.h];by_cases q:m<N k
  ·refine d1.same m q fun e=>hw ⟨_,hx,.inl<|(d4 m).2 ⟨e,q⟩⟩
  ·refine d1.rM m ?_ j9;rw[hd.nx];rcases Nat.lt_or_ge m (N<|k+1) with q2|q2
   ·exact absurd ⟨_,hx,.inr ⟨by omega,q2⟩⟩ hw
   ·exact q2
 ·intro k m hk h1 h2;obtain⟨o,x,s1,_,hx,_,hd⟩:=ak k hk;exact⟨x,hx,.inr ⟨h1,h2⟩⟩
 ·rintro k m hk ⟨x',qG,hw⟩;obtain⟨o,x,s1,_,hx,_,hd⟩:=ak k hk;rw[hx] at qG;cases qG;obtain⟨dr,dw,d1,_,d3,d4⟩:=KL k hk o _ s1 hd;have GQ:=d1.nx;rw[hd.nx] at GQ;have ahK:N k<=N (k+1):=GQ;rcases hw with hw|⟨h1,h2⟩
  ·obtain⟨e1,e2⟩:=(d4 m).1 hw;exact⟨by omega,fun _=>⟨_,hx,(d3 m).2 ⟨d1.sub m e1,e2⟩⟩⟩
  ·exact⟨h2,fun q=>by omega⟩
 ·intro k o d ho cf;have hk:k<ops.size:=(Array.getElem?_eq_some_iff.1 ho).1;obtain⟨o',x,s1,kE,hx,_,hd⟩:=ak k hk;rw[ho] at kE;cases kE;obtain⟨v,hv,_⟩:=R2 (u:=T k) (fun _ _=>rfl) hd.run;rcases Cx hv with⟨_,e⟩|⟨d',e1,e2,e3⟩
  ·rw[e]
  ·rw[e3,Tr.lL _ _ _ _<|Nat.lt_of_lt_of_le e2 iV,if_neg (by intro e;subst e;exact cf e1)]
 ·rintro i j m hi hj cf aeD ⟨x',qG,hw⟩ ⟨y',vU,hr⟩;obtain⟨_,x,s1,_,hx,xi,hd⟩:=ak i hi;obtain⟨_,y,s2,_,hy,yi,he⟩:=ak j hj;rw[hx] at qG;cases qG;rw[hy] at vU;cases vU;rcases SG hm _ (List.mem_of_getElem? hx) with q|q
  ·unfold sR at q;split at q
   ·rename_i hwr;rcases hw with hw|⟨h1,h2⟩
    ·rw[hwr] at hw;cases hw
    ·have:=aL.1 q;rw[hd.lo,hd.hi] at this;omega
   ·cases q
  ·rcases Ri q _ (List.mem_of_getElem? hy) with e|e|e
   ·rw[xi,yi] at e;exact cf e
   ·unfold sQ at e;simp only[Bool.and_eq_true,Bool.not_eq_true'] at e;rcases hw with hw|⟨h1,h2⟩
    ·exact RM e.1 m hw hr
    ·exact RN e.2 m hr ⟨by rw[hd.lo];exact h1,by rw[hd.hi];exact h2⟩
   ·rw[xi,yi,aeD] at e;cases e
 ·intro j o ho h' hag;have hj:j<ops.size:=(Array.getElem?_eq_some_iff.1 ho).1;obtain⟨o',x,s1,kE,hx,_,hd⟩:=ak j hj;rw[ho] at kE;cases kE;obtain⟨dr,dw,d1,d2,d3,d4⟩:=KL j hj o x s1 hd;obtain⟨t1,c1,c2⟩:=d2 (fun m=>∃x,ms[j]? =some x/\m∈x.rd) (N j) ⟨h',N j,N j,[],[]⟩
   ⟨rfl,rfl,Nat.le_refl _,fun k hk cP=>by
    rcases cP with cP|cP
    ·exact(hag k (Nat.lt_of_lt_of_le hk<|a7 j aj) cP).symm
    ·exact absurd hk<|Nat.not_lt.2 cP⟩ (fun q hq bZ=>⟨x,hx,(d3 q).2 ⟨hq,bZ⟩⟩)
  have cr:t1.nx=N (j+1):=by rw[←c2.agree.nx,hd.nx]
  refine⟨t1,c1,cr,?_,?_⟩
  ·rintro m ⟨x',qG,hw⟩;rw[hx] at qG;cases qG;rw[←hd.h];have GQ:=d1.nx;rw[hd.nx] at GQ;have ahK:N j<=N (j+1):=GQ;symm;rcases hw with hw|⟨h1,h2⟩
   ·obtain⟨e1,e2⟩:=(d4 m).1 hw;exact c2.agree.is m (by rw[hd.nx];omega)<|.inl ⟨x,hx,(d3 m).2 ⟨d1.sub m e1,e2⟩⟩
   ·exact c2.agree.is m (by rw[hd.nx];exact h2)<|.inr h1
  ·intro m hw j9;by_cases q:m<N j
   ·exact c2.same m q fun e=>hw ⟨_,hx,.inl<|(d4 m).2 ⟨e,q⟩⟩
   ·refine c2.rM m ?_ j9;rw[hd.nx];rcases Nat.lt_or_ge m (N<|j+1) with q2|q2
    ·exact absurd ⟨_,hx,.inr ⟨by omega,q2⟩⟩ hw
    ·exact q2
end
end Go.Rn
