import Derived.Test.YtaooegdfpnfncaaGreatDoorRnGA
import Derived.IntWalk
import Derived.MapKept
import Derived.AtR
import Derived.Orders
import Derived.RangeFuncIn
import Derived.RangeFuncLeaves
import Derived.Maps.RangeRun
set_option maxRecDepth 100000
set_option maxHeartbeats 8000000
set_option linter.unusedSimpArgs false
set_option linter.unusedVariables false
namespace Go.Rn
open Go.RowKit
variable {n:Nat} {v:Value} {ty:TypeId} {a:AV}
theorem Rel.WK{B:aI}{ρ:aw}{h:Tr ae}{w w':World}(r:Rel B ρ h w){p:ae}{b N:Nat}(ht:n<top)(hg:h.get n=some p)(hp:p.plain=true)(cH:p.dv=false)(hr:ρ n=some (b,N))(hw:x8 b w w'):
 Rel B ρ (h.put n none) w'/\∀m q,m<top->(h.put n none).get m=some q->∀M,ρ m≠some (b,M):=by
 have g:∀m,m<top->(h.put n none).get m=if m=n then none else h.get m:=fun m hm=>Tr.du _ _ _ _ ht hm
 have ma:∀m q,m<top->(h.put n none).get m=some q->∀M,ρ m≠some (b,M):=by
  intro m q hm hq M e;rw[g m hm] at hq;by_cases e2:m=n
  ·rw[if_pos e2] at hq;cases hq
  ·rw[if_neg e2] at hq;exact e2<|r.one m n q p b M N hm ht hq hg (.inr cH) e hr
 refine⟨?_,ma⟩;have hl:h.get n≠some .jQ:=by intro e;rw[hg] at e;cases e;simp[ae.plain] at hp
 have r2:=r.drop ht hl;refine⟨?_,r2.one,?_,by rw[hw.size];exact r.size,r2.lone,r.fz.of (aw.le_refl _) (fun b1 _ hn=>hw.block b1 fun e=>hn n p N ht hg cH (by rw[e];exact hr)) (fun b1 _ hn=>hn.sub fun m q hm hq hU=>by
  rw[g m hm] at hq;by_cases e:m=n
  ·rw[if_pos e] at hq;cases hq
  ·rw[if_neg e] at hq;exact⟨q,hq,hU⟩),r.tk.of (aw.le_refl _) (fun m q hm hq _=>by
  rw[g m hm] at hq;by_cases e:m=n
  ·rw[if_pos e] at hq;cases hq
  ·rw[if_neg e] at hq;exact hq) (by rw[hw.size];exact Nat.le_refl _) (fun b1 _ hn=>hw.block b1 fun e=>hn n p N ht hg cH (by rw[e];exact hr)) (fun b1 _ hn=>hn.sub fun m q hm hq hU=>by
  rw[g m hm] at hq;by_cases e:m=n
  ·rw[if_pos e] at hq;cases hq
  ·rw[if_neg e] at hq;exact⟨q,hq,hU⟩) fun _ _ _ _ _ e=>e⟩
 ·intro m q hm hq;obtain⟨b1,N1,o1,h1,h2,h3,h4⟩:=r2.is m q hm hq;exact⟨b1,N1,o1,h1,(hw.block b1 fun e=>ma m q hm hq N1<|by rw[h1,e]).trans h2,h3,h4⟩
 ·intro i m es ex left cur hi hq;obtain⟨hm,fx,u⟩:=r2.iter i m es ex left cur hi hq;exact⟨hm,fx,u.m8 hw.block (ma i _ hi hq)<|ma m _ hm fx⟩
section
variable {P:Program} {B:aI} {ρ:aw} {w:World} {s s1:AS} {x:AV} {SG:aO} {t:Tr AV} {ev:Operand->Value} {o:Oper}
theorem Tn(h:n<2 ^ 63):IntKind.i64.wrap (n:Int)=n:=by exact IntWalk.i64_in _ ak
theorem aax{l c:AV}{vl vc:Value}(hl:VR ρ l vl)(hc:VR ρ c vc)(r:Rel B ρ s.h w)(hf:dK s.nx s1.nx ρ)(h:makeSlice P ty l c s= .ok x s1):jS P B ρ s s1 w x<|Instr.makeSlice ty vl vc:=by
 unfold makeSlice at h;cases e1:P.underlying ty with
 |none=>simp only[e1] at h;cases h
 |some d=>
  cases d<;>simp only[e1] at h<;>first|(cases h;done)|skip
  rename_i e;obtain⟨il,h1,h⟩:=bw h;obtain⟨ic,h2,h⟩:=bw h;obtain⟨i,h3,h⟩:=bw h;obtain⟨nc,h4,h⟩:=bw h;obtain⟨nl,h5,h⟩:=bw h;obtain⟨z,h6,h⟩:=bw h;obtain⟨h7,h⟩:=cY h;obtain⟨n,s2,h8,h9⟩:=M.aR h;obtain⟨rfl,rfl⟩:=bI h9;obtain⟨q1,q2⟩:=and_true.1 h7;obtain⟨q3,q4⟩:=and_true.1 q2;obtain⟨q5,q6⟩:=and_true.1 q4;have q1:=aL.1 q1;have q3:=aL.1 q3;obtain⟨k1,_,rfl⟩:=hl.Ea h1;obtain⟨k2,_,rfl⟩:=hc.Ea h2;obtain⟨rfl,jL⟩:=zD h4;obtain⟨rfl,Mj⟩:=zD h5;unfold room at jL q1;obtain⟨vz,g1,g2⟩:=Jl (P:=P) (w:=w) ρ h6;obtain⟨ht,rfl,rfl⟩:=vA h8;have ji:ρ s.nx=none:=hf s.nx (Nat.le_refl _) (Nat.lt_succ_self _) ak;have hz:=g2.cells.length;simp only[Array.length_toList] at hz;have zV:(Array.range<|nc*i.size).map (fun j=>(if nc*i.size=0 then(#[]:Array Value) else vz.cells)[j % (if nc*i.size=0 then(#[]:Array Value) else vz.cells).size]!)=(Array.range<|nc*i.size).map (fun j=>vz.cells[j % vz.cells.size]!):=by
   by_cases q:nc*i.size=0
   ·rw[q];simp
   ·simp only[if_neg q]
  refine⟨eR ρ s.nx (w.heap.size,nc*i.size),{w with heap:=w.heap.push<|.cells ((Array.range<|nc*i.size).map fun j=>vz.cells[j % vz.cells.size]!) e},.slice (some ⟨w.heap.size,0,none⟩) nl nc,Ext.mP ji,?_,?_,?_,(gX.alloc w _).below r.size⟩
  ·have w1:IntKind.i64.wrap (nl:Int)=nl:=Tn ak;have w2:IntKind.i64.wrap (nc:Int)=nc:=Tn ak;have t1:(decide ((nc:Int)<0)||decide ((i.bytes:Int)*(nc:Int)>2 ^ 48))=false:=by
    have:¬((nc:Int)<0):=by omega
    have h2:¬((i.bytes:Int)*(nc:Int)>2 ^ 48):=by
     have:(i.bytes:Int)*(nc:Int)=((nc*i.bytes:Nat):Int):=by rw[Nat.mul_comm];simp
     rw[this];omega
    rw[decide_eq_false this,decide_eq_false h2];rfl
   have t2:¬((nl:Int)<0):=by omega
   have t3:¬((nl:Int)>(nc:Int)):=by omega
   simp only[Instr.makeSlice,Sem.run_bind,dh e1,Result.andThen_ok,asInt,asIntOf,Sem.run_pure,vu h3,w1,w2];have anJ:¬(((decide ((nc:Int)<0)||decide ((i.bytes:Int)*(nc:Int)>2 ^ 48))=true)\/((nl:Int)<0)\/((nl:Int)>(nc:Int))):=by
    rw[t1];rintro (e|e|e)
    ·cases e
    ·exact t2 e
    ·exact t3 e
   have agn:((decide ((nc:Int)<0)||decide ((i.bytes:Int)*(nc:Int)>2 ^ 48))||decide ((nl:Int)<0)||decide ((nl:Int)>(nc:Int)))=false:=by rw[t1];simp[t2,t3]
   simp only[agn,Bool.false_eq_true,if_false,Sem.run_bind,run_askRoom,Result.andThen_ok,Int.toNat_natCast,gS (show eD P e=some i.size by simp[eD,h3])];by_cases q:nc*i.size=0
   ·simp only[if_pos q] at zV ⊢;simp only[Sem.run_bind,Sem.run_pure,Result.andThen_ok,zV];rfl
   ·simp only[if_neg q] at zV ⊢;simp only[Sem.run_bind,g1,Sem.run_pure,Result.andThen_ok];rfl
  ·simp only[VR];exact⟨_,_,iQ _ _ _,rfl⟩
  ·refine r.new ht ji rfl ⟨_,e,rfl,by simp,Nat.le_refl _,fun j hj=>?_⟩;have ahQ:0<z.cells.length:=by
    rcases Nat.eq_zero_or_pos z.cells.length with h0|h0
    ·rw[h0] at q5;have:Nat.beq (nc*i.size) 0=true:=by
      cases hb:Nat.beq (nc*i.size) 0 with
      |true=>rfl
      |false=>rw[hb] at q5;simp at q5
     have:=eB.1 this;omega
    ·exact h0
   have hm:j % z.cells.length<z.cells.length:=Nat.mod_lt _ ahQ;obtain⟨a,ha⟩:∃a,z.cells[j % z.cells.length]? =some a:=⟨_,List.getElem?_eq_getElem hm⟩;obtain⟨v,hv,hr⟩:=g2.cells.get _ a ha;refine⟨a,v,?_,List.all_eq_true.1 q6 a<|List.mem_of_getElem? ha,?_,hr.mono<|oP ji⟩
   ·unfold cellAt;rw[Tr.get_nil];exact ha
   ·have cX:j % vz.cells.size<vz.cells.size:=by rw[←hz];exact hm
    have jK:vz.cells[j % vz.cells.size]? =some v:=by rw[←hz];simpa using hv
    simp only[Array.getElem?_map,Array.getElem?_range,if_pos hj,Option.map_some];rw[getElem!_pos vz.cells _ cX];rw[Array.getElem?_eq_getElem cX] at jK;injection jK with jK;rw[jK]
theorem aar{l c:Operand}(he:∀x v,aK t x=some v->VR ρ v (ev x))(r:Rel B ρ s.h w)(hf:dK s.nx s1.nx ρ)(h:Bp P ty l c SG t s= .ok x s1)(ho:o.op= .makeSlice ty l c):gh P B ρ s s1 w x<|execOp ev o:=by unfold Bp at h;obtain⟨a,h1,h2⟩:=bw h;obtain⟨b,h3,h4⟩:=bw h2;have:=(aax (P:=P) (he l a h1) (he c b h3) r hf h4).op;simpa only[execOp,ho] using this
theorem Ja{size:Nat}{l:List AV}(ha:VR ρ a v)(fi:bF s)(r:Rel B ρ s.h w)(h:firstCells size n a s= .ok l s1):
 s1.h=s.h/\s1.nx=s.nx/\∃arr:Array Value,(Builtin.firstCells size n v).run P w= .ok arr w/\az ρ l arr.toList:=by
 cases a with
 |slice p len cap=>
  cases p with
  |none=>
   have h':(M.pure []:M<|List AV) s= .ok l s1:=by cases len<;>cases cap<;>exact h
   obtain⟨rfl,rfl⟩:=bI h';obtain⟨rfl,rfl,rfl⟩:=mB ha;exact⟨rfl,rfl, #[],rfl,by simp[az]⟩
  |some p=>
   obtain⟨m,i⟩:=p;by_cases hc:cap= .lost
   ·subst hc;simp only[VR] at ha;obtain⟨rfl,b,N,q,c,e,rfl⟩:=ha;obtain⟨h1,h2⟩:=cY (show(aF (Nat.beq n 0) <| (M.pure []:M<|List AV)) s= .ok l s1 from h);obtain⟨rfl,rfl⟩:=bI h2;have:=eB.1 h1;subst this;refine⟨rfl,rfl, #[],?_,by simp[az]⟩;simp[Builtin.firstCells,loadCells,loadCellsFrom]
   ·rw[M7 hc] at h;have:∃b N c,ρ m=some (b,N)/\v= .slice (some ⟨b,i,none⟩) len c:=by
     cases cap with
     |known c=>simp only[VR] at ha;obtain⟨b,N,e,rfl⟩:=ha;exact⟨b,N,c,e,rfl⟩
     |ar lo e0=>simp only[VR] at ha;obtain⟨b,N,c,e,rfl,_⟩:=ha;exact⟨b,N,c,e,rfl⟩
     |lost=>exact absurd rfl hc
    obtain⟨b,N,c,e,rfl⟩:=this;obtain⟨a1,a2,a3,a4,vs,a5,a6,_⟩:=zA (P:=P) fi r h e;exact⟨a1,a2,vs.toArray,by simpa[Builtin.firstCells] using a5,by simpa using a6⟩
 |_=>cases h
theorem TY(ha:VR ρ a v)(h:lenOf a=some n):(Builtin.lenOf v).run P w= .ok n w:=by
 cases a with
 |slice p len cap=>
  simp only[lenOf] at h;injection h with h;subst h
  cases p with
  |none=>obtain⟨rfl,rfl,rfl⟩:=mB ha;rfl
  |some p=>obtain⟨m,i⟩:=p;obtain⟨_,_,_,_,_,rfl⟩:=vw ha;rfl
 |_=>cases h
theorem TZ(nw:Nat):∀(k c:Nat),c<=nw->Builtin.growBy nw k c<=nw+nw+800
 |0,c,h=>by simp only[Builtin.growBy];omega
 |k+1,c,h=>by
  simp only[Builtin.growBy];by_cases q:c>=nw
  ·rw[if_pos q];omega
  ·rw[if_neg q];by_cases q2:c+(c+768) / 4<=nw
   ·exact TZ nw k _ q2
   ·have:∀k,Builtin.growBy nw k (c+(c+768) / 4)=c+(c+768) / 4:=by
     intro k;cases k with
     |zero=>rfl
     |succ k=>simp only[Builtin.growBy];rw[if_pos ak]
    rw[this];omega
theorem abo{nw dH:Nat}(h:dH<nw):Builtin.nextslicecap nw dH<=2*nw+4096:=by
 unfold Builtin.nextslicecap;split
 ·omega
 ·split
  ·omega
  ·have:=TZ nw 4 dH ak;omega
theorem adj{elem:TypeId}{i:TypeInfo}{sv xv:Value}{base:Option Addr}{len c:Nat}{xt:Option TypeId}{args:Array TypeId}{sT:TypeId}{dH new:Array Value}{zv:Value}(hs:sv= .slice base len c)(hu:P.underlying sT=some (.slice elem))(yU:args[0]? =some sT)(uX:args[1]? =xt)(hx:pV P xt=true)(hi:P.info? elem=some i)(hn:(Builtin.lenOf xv).run P w= .ok n w)(cF:c<len+n)(ux:2*(len+n)*i.bytes+4096*i.bytes<=room)(hb:i.bytes≠0)(ho:(Builtin.firstCells i.size len sv).run P {w with drawn:=w.drawn+1}= .ok dH {w with drawn:=w.drawn+1})(hw:(Builtin.firstCells i.size n xv).run P {w with drawn:=w.drawn+1}= .ok new {w with drawn:=w.drawn+1})(hz:∀w':World,(zeroValue elem).run P w'= .ok zv w'):
    ∃ rest:List Value,∃nc,len+n<=nc/\rest.length=(nc - (len+n))*zv.cells.size/\(Builtin.append_ args 0 #[sv,xv]).run P w=
      .ok (.slice (some ⟨w.heap.size,0,none⟩) (len+n) nc) {w with heap:=w.heap.push<|.cells ((dH++new).toList++rest).toArray elem,drawn:=w.drawn+1}:=by
  subst hs
  have LJ:=abo cF
  have hmul:Builtin.nextslicecap (len+n) c*i.bytes<=2 ^ 48:=by
    have:=Nat.mul_le_mul_right i.bytes LJ
    have e:(2*(len+n)+4096)*i.bytes=2*(len+n)*i.bytes+4096*i.bytes:=Nat.add_mul _ _ _
    unfold room at ux
    omega
  have hnc:∃nc,len+n<=nc/\(choose<|.appendCap (len+n) c elem).run P w= .ok nc {w with drawn:=w.drawn+1}:=by
    refine⟨len+n+w.tape w.drawn (.appendCap (len+n) c elem) % (2 ^ 63 - (len+n)),by omega,?_⟩
    rw[run_choose]
    simp[Question.forced,Question.cut]
  obtain⟨nc,ajJ,X9⟩:=hnc
  refine⟨(Builtin.zeroCells zv.cells<|nc - (len+n)).toList,nc,ajJ,by simp[Builtin.zeroCells],?_⟩
  have hle:¬(len+n<=c):=by omega
  have Y5:¬(((len+n:Nat):Int)>IntKind.i64.max/\(False\/i.bytes=0)):=by
    rintro ⟨_,e|e⟩
    · cases e
    · exact hb e
  have Ya:¬(Builtin.nextslicecap (len+n) c*i.bytes>2 ^ 48):=by omega
  have eO:∀w':World,(Go.newRow elem<|dH++new++Builtin.zeroCells zv.cells (nc - (len+n))).run P w'= .ok ⟨w'.heap.size,0,none⟩ {w' with heap:=w'.heap.push<|.cells ((dH++new).toList++(Builtin.zeroCells zv.cells<|nc - (len+n)).toList).toArray elem}:=by
    intro w'
    have e:((dH++new).toList++(Builtin.zeroCells zv.cells<|nc - (len+n)).toList).toArray=dH++new++Builtin.zeroCells zv.cells (nc - (len+n)):=by
      rw[←Array.toList_append]
    rw[e];rfl
  unfold pV at hx
  cases xt with
  | none=>
    simp only[Builtin.append_,yU,uX]
    simp only[show(#[Value.slice base len c,xv]:Array Value)[0]? =some (.slice base len c) from rfl,show(#[Value.slice base len c,xv]:Array Value)[1]? =some xv from rfl]
    simp only[Sem.run_bind,dh hu,Result.andThen_ok,gS (show eD P elem=some i.size by simp[eD,hi]),Sem.run_pure,Bool.false_eq_true,if_false,hn,if_neg hle,vu hi]
    rw[if_neg Y5]
    simp only[Sem.run_bind,vu hi,Result.andThen_ok]
    rw[if_neg Ya]
    simp only[Sem.run_bind,X9,Result.andThen_ok,vu hi,run_askRoom,ho,Bool.not_false,if_true,hw,hz,eO,Sem.run_pure]
  | some q =>
    simp only at hx
    cases e:P.underlying q with
    |none=>rw[e] at hx;cases hx
    | some d=>
      rw[e] at hx
      cases d<;>first
        |(cases hx;done)
        | (simp only[Builtin.append_,yU,uX]
           simp only[show(#[Value.slice base len c,xv]:Array Value)[0]? =some (.slice base len c) from rfl,show(#[Value.slice base len c,xv]:Array Value)[1]? =some xv from rfl]
           simp only[Sem.run_bind,dh hu,Result.andThen_ok,gS (show eD P elem=some i.size by simp[eD,hi]),Sem.run_pure,dh e,Bool.false_eq_true,if_false,hn,if_neg hle,vu hi]
           rw[if_neg Y5]
           simp only[Sem.run_bind,vu hi,Result.andThen_ok]
           rw[if_neg Ya]
           simp only[Sem.run_bind,X9,Result.andThen_ok,vu hi,run_askRoom,ho,Bool.not_false,if_true,hw,hz,eO,Sem.run_pure])
end
end Go.Rn
namespace Go.Rn
open Go.RowKit
variable {n size c:Nat} {elem sT:TypeId} {xv:Value} {xt:Option TypeId} {l:List AV} {i:TypeInfo} {base:Option Addr} {args:Array TypeId}
section
variable {P:Program} {B:aI} {ρ:aw} {w:World} {s s1:AS} {x:AV} {SG:aO} {t:Tr AV} {ev:Operand->Value} {o:Oper}
theorem J4{len:Nat}{new:Array Value}{w':World}(hu:P.underlying sT=some (.slice elem))(yU:args[0]? =some sT)(uX:args[1]? =xt)(hx:pV P xt=true)(hi:eD P elem=some size)(hn:(Builtin.lenOf xv).run P w= .ok n w)(hle:len+n<=c)(hw:(Builtin.firstCells size n xv).run P w= .ok new w)(cQ:(match base with|some a=>storeCells (a.add<|len*size) new.toList|none=>pure ()).run P w= .ok () w'):
    (Builtin.append_ args 0 #[.slice base len c,xv]).run P w= .ok (.slice base (len+n) c) w':=by
  have ji:base=none->w'=w:=by
    intro e;subst e
    have ajK:Result.ok () w= .ok () w':=cQ
    injection ajK with _ e;exact e.symm
  unfold pV at hx
  cases xt with
  | none=>
    simp only[Builtin.append_,yU,uX]
    simp only[show(#[Value.slice base len c,xv]:Array Value)[0]? =some (.slice base len c) from rfl,show(#[Value.slice base len c,xv]:Array Value)[1]? =some xv from rfl]
    simp only[Sem.run_bind,dh hu,Result.andThen_ok,gS hi,Sem.run_pure,Bool.false_eq_true,if_false,hn,if_pos hle,Bool.not_false,if_true,hw]
    cases base with
    |none=>simp only[Sem.run_pure,ji rfl]
    |some a=>simp only[Sem.run_bind,show(storeCells (a.add<|len*size) new.toList).run P w= .ok () w' from cQ,Result.andThen_ok,Sem.run_pure]
  | some q =>
    simp only at hx
    cases e:P.underlying q with
    |none=>rw[e] at hx;cases hx
    | some d=>
      rw[e] at hx
      cases d<;>first
        |(cases hx;done)
        | (simp only[Builtin.append_,yU,uX]
           simp only[show(#[Value.slice base len c,xv]:Array Value)[0]? =some (.slice base len c) from rfl,show(#[Value.slice base len c,xv]:Array Value)[1]? =some xv from rfl]
           simp only[Sem.run_bind,dh hu,Result.andThen_ok,gS hi,Sem.run_pure,dh e,Bool.false_eq_true,if_false,hn,if_pos hle,Bool.not_false,if_true,hw]
           cases base with
           |none=>simp only[Sem.run_pure,ji rfl]
           |some a=>simp only[Sem.run_bind,show(storeCells (a.add<|len*size) new.toList).run P w= .ok () w' from cQ,Result.andThen_ok,Sem.run_pure])
theorem aay(hi:P.info? elem=some i)(h:tO i=true):∃zv,(∀w':World,(zeroValue elem).run P w'= .ok zv w')/\zv.cells.size=i.size:=by
 unfold tO at h;cases e:i.zero with
 |none=>rw[e] at h;cases h
 |some v=>rw[e] at h;exact⟨v,fun w'=>by simp[zeroValue,vu hi,e],eB.1 h⟩
theorem aaz{off:Nat}{vs:List Value}{u:Unit}{b N:Nat}(fi:bF s)(r:Rel B ρ s.h w)(hN:off+l.length<=N)(h:xC n off l s= .ok u s1)(hn:ρ n=some (b,N))(hl:az ρ l vs):
 s1.nx=s.nx/\∃w',(storeCells ⟨b,off,none⟩ vs).run P w= .ok () w'/\Rel B ρ s1.h w'/\cP B w w':=by
 cases l with
 |nil=>simp only[az] at hl;subst hl;have h':M.pure () s= .ok u s1:=h;obtain⟨_,rfl⟩:=bI h';exact⟨rfl,w,rfl,r,cP.refl _ _⟩
 |cons x l=>
  unfold xC at h;obtain⟨o,s2,h1,h2⟩:=M.aR h;obtain⟨hx,hg,hh,cJ⟩:=fY h1;have ht:n<top:=Nat.lt_of_lt_of_le hx fi.nx;obtain⟨o',hb,hO,hB⟩:=r.block ht hg hn;cases o with
  |cells m t z=>
   obtain⟨q1,q2⟩:=cY h2;obtain⟨q3,q4⟩:=and_true.1 q1;obtain⟨q5,q6⟩:=and_true.1 q4;obtain⟨_,_,_,e1,e2⟩:=jz q2;obtain⟨c,e,rfl,hc,hm,row⟩:=hO;have hlen:(x::l).length=vs.length:=hl.length;have h3:off<=m:=aL.1 q3;have h4:max m (off+(x::l).length)<=top:=aL.1 q5;have h5:∀y∈x::l,y.cj=true:=fun y hy=>List.all_eq_true.1 q6 y hy;have cQ:=NP (P:=P) (off:=off) (vs:=vs) hb ak<|Jd hl h5;obtain⟨g1,g2⟩:=Nn (cs:=(c.toList.take off++vs++c.toList.drop (off+vs.length)).toArray) hb;refine⟨by rw[e2,cJ],_,cQ,?_,g1.below<|hB rfl⟩;rw[e1,hh];refine r.put ht hg rfl rfl hn rfl g1 g2 ?_;refine⟨_,e,rfl,(size_set ak).trans hc,?_,?_⟩
   ·show max m (off+(x::l).length)<=N;omega
   ·have h6:max m (off+(x::l).length)<=c.size:=by omega
    exact Row.set (ρ:=ρ) (c:=c) (n:=m) row hl h5 h3 rfl h6 h4
  |_=>cases h2
theorem NR{sv:Value}{len:Nat}{dH new:List AV}{vo vn:Array Value}(hs:sv= .slice base len c)(hu:P.underlying sT=some (.slice elem))(yU:args[0]? =some sT)(uX:args[1]? =xt)(hx:pV P xt=true)(hi:P.info? elem=some i)(hz:tO i=true)(hn:(Builtin.lenOf xv).run P w= .ok n w)(cF:c<len+n)(r:Rel B ρ s.h w)(hf:dK s.nx s1.nx ρ)(gI:dH.length=len*i.size)(yV:new.length=n*i.size)(ho:(Builtin.firstCells i.size len sv).run P {w with drawn:=w.drawn+1}= .ok vo {w with drawn:=w.drawn+1})(hw:(Builtin.firstCells i.size n xv).run P {w with drawn:=w.drawn+1}= .ok vn {w with drawn:=w.drawn+1})(Y6:az ρ dH vo.toList)(FO:az ρ new vn.toList)(h:grown i.size i.bytes (len+n) dH new s= .ok x s1):jS P B ρ s s1 w x<|Builtin.append_ args 0 #[sv,xv]:=by
 unfold grown at h;obtain⟨h1,h2⟩:=cY h;obtain⟨m,s2,h3,h4⟩:=M.aR h2;obtain⟨rfl,rfl⟩:=bI h4;obtain⟨h5,h6⟩:=and_true.1 h1;have ux:=aL.1 h5;have hb:i.bytes≠0:=by intro e;rw[e] at h6;simp at h6
 obtain⟨zv,hz1,hz2⟩:=aay (P:=P) hi hz;obtain⟨rest,nc,g1,g2,g3⟩:=adj (P:=P) (w:=w) hs hu yU uX hx hi hn cF ux hb ho hw hz1;have r1:Rel B ρ s.h {w with drawn:=w.drawn+1}:=r.Fh<|gX.drew w;obtain⟨rfl,k1,σ,k2,k3,k4,k5⟩:=Ny (P:=P) elem rest r1 hf h3<|Y6.append FO;have e:vo.toList++vn.toList++rest=(vo++vn).toList++rest:=by simp
 refine⟨σ,_,_,k2,g3,?_,?_,(gX.trans (gX.drew w)<|gX.alloc _ _).below r.size⟩
 ·simp only[VR];refine⟨_,_,nc,k3,rfl,g1,g1,?_⟩;have e1:=Y6.length;have e2:=FO.length;simp only[List.length_append];rw[←e1, ←e2,gI,yV,g2,hz2,Nat.zero_add, ←Nat.add_mul, ←Nat.add_mul];exact Nat.le_of_eq (by congr 1;omega)
 ·rw[e] at k5;exact k5
theorem aal{len:Nat}{base:Option<|Nat×Nat}{cap:cR}{v:Value}(fi:bF s)(r:Rel B ρ s.h w)(ha:VR ρ (.slice base len cap) v)(hc:cap≠ .lost)(h:firstCells size len (.slice base len cap) s= .ok l s1):l.length=len*size:=by
 cases base with
 |none=>obtain⟨rfl,rfl,rfl⟩:=mB ha;obtain⟨rfl,rfl⟩:=bI (show(M.pure []:M<|List AV) s= .ok l s1 from h);simp
 |some p=>obtain⟨m,i⟩:=p;rw[M7 hc] at h;obtain⟨b,N,q,k,hn,rfl⟩:=vw ha;exact(zA (P:=(default:Program)) fi r h hn).2.2.1
end
end Go.Rn
namespace Go.Rn
open Go.RowKit
variable {α:Type} {vb va:Value} {v:α} {ts:Array TypeId} {size n:Nat} {s2:AS} {a:AV}
theorem SF.cG{m:M α}(hm:SF m){s s1:AS}(fi:bF s)(h:m s= .ok v s1):bF s1:=by obtain⟨dr,dw,d,_⟩:=hm s v s1 fi h;exact d.cG fi
theorem SF.le{m:M α}(hm:SF m){s s1:AS}(fi:bF s)(h:m s= .ok v s1):s.nx<=s1.nx:=by obtain⟨dr,dw,d,_⟩:=hm s v s1 fi h;exact d.nx
section
variable {P:Program} {B:aI} {ρ:aw} {w:World} {s s1:AS} {x:AV} {SG:aO} {t:Tr AV} {ev:Operand->Value} {o:Oper}
theorem jS.nx{c:Sem Value}(h:jS P B ρ s2 s1 w x c)(e:s2.nx=s.nx):jS P B ρ s s1 w x c:=by unfold jS at h ⊢;rw[e] at h;exact h
theorem S6{elem sT:TypeId}{len c m b N:Nat}{xv:Value}{xt:Option TypeId}{args:Array TypeId}{dH new:List AV}{vn:Array Value}{p:ae}{bytes:Nat}{vo:List Value}(hu:P.underlying sT=some (.slice elem))(yU:args[0]? =some sT)(uX:args[1]? =xt)(hx:pV P xt=true)(hi:eD P elem=some size)(hn:(Builtin.lenOf xv).run P w= .ok n w)(hle:len+n<=c)(r:Rel B ρ s.h w)(ht:m<top)(hg:s.h.get m=some p)(hp:p.zK=true)(hm:ρ m=some (b,N))(hc:c*size<=N)(hf:dK s.nx s1.nx ρ)(gI:dH.length=len*size)(yV:new.length=n*size)(im:s2.h=s.h.put m none)(Rp:s2.nx=s.nx)(hw:(Builtin.firstCells size n xv).run P w= .ok vn w)(hold:∀j v,vo[j]? =some v->w.cell? ⟨b,0+j,none⟩=some v)(ho:az ρ dH vo)(FO:az ρ new vn.toList)(h:grown size bytes (len+n) dH new s2= .ok x s1):jS P B ρ s s1 w x<|Builtin.append_ args 0 #[.slice (some ⟨b,0,none⟩) len c,xv]:=by
 obtain⟨o',hb,hO,hB⟩:=r.block ht hg hm;cases p with
 |cells k tr z=>
  obtain⟨c0,e0,rfl,jt,hk,row⟩:=hO;unfold grown at h;obtain⟨_,h2⟩:=cY h;obtain⟨q,s3,h3,h4⟩:=M.aR h2;obtain⟨rfl,rfl⟩:=bI h4;unfold newRow at h3;obtain⟨q1,q2⟩:=cY h3;obtain⟨q3,q4⟩:=and_true.1 q1;obtain⟨FP,rfl,rfl⟩:=vA q2;have wx:∀y∈dH++new,y.cj=true:=fun y hy=>List.all_eq_true.1 q4 y hy;have hlen:(dH++new).length<=top:=aL.1 q3;have hvl:=FO.length;have Y7:=ho.length;have hmul:len*size+n*size<=c*size:=by rw[←Nat.add_mul];exact Nat.mul_le_mul_right _ hle
  have LK:len*size+vn.toList.length<=c0.size:=by omega
  have cQ:=NP (P:=P) (off:=len*size) (vs:=vn.toList) hb LK<|Jd FO fun y hy=>wx y<|List.mem_append_right _ hy;obtain⟨g1,g2⟩:=Nn (cs:=(c0.toList.take (len*size)++vn.toList++c0.toList.drop (len*size+vn.toList.length)).toArray) hb;have rj:=J4 (P:=P) (w:=w) (base:=some ⟨b,0,none⟩) hu yU uX hx hi hn hle hw (by show(storeCells ((Addr.mk b 0 none).add<|len*size) vn.toList).run P w=_;rw[Addr.qJ,Nat.zero_add];exact cQ);obtain⟨d1,d2⟩:=r.WK ht hg rfl rfl hm g1;have ji:ρ s2.nx=none:=hf s2.nx ak (Nat.lt_succ_self _) ak;refine⟨eR ρ s2.nx (b,N),_,_,?_,rj,?_,?_,g1.below<|hB rfl⟩
  ·rw[←Rp];exact Ext.mP ji
  ·simp only[VR];exact⟨b,N,c,iQ _ _ _,rfl,hle,hle,by omega⟩
  ·show Rel B _ (s2.h.put s2.nx<|some<|.cells (dH++new).length (Tr.fill (dH++new) 0 .nil) []) _;rw[im];refine d1.name FP ji rfl g2 (fun _=>hB rfl) (fun k' sh=>by
    cases e:ρ (Rn.hn k' b sh) with
    |none=>rfl
    |some x=>obtain⟨_,_,_,_,_,_,_,q3,_⟩:=r.fz k' b sh (by rw[e];exact fun h=>by cases h);exact absurd hm<|q3 m _ N ht hg rfl) d2 ?_ (r.tk.of (oP ji) (fun j q hj hq yC=>by
    rw[Tr.du _ _ _ _ FP hj] at hq;by_cases e:j=s2.nx
    ·rw[if_pos e] at hq;cases hq;cases yC
    ·rw[if_neg e,Tr.du _ _ _ _ ht hj] at hq;by_cases e2:j=m
     ·rw[if_pos e2] at hq;cases hq
     ·rw[if_neg e2] at hq;exact hq) (by rw[g1.size];exact Nat.le_refl _) (fun b1 _ hn=>g1.block b1 fun e=>hn m _ N ht hg rfl (by rw[e];exact hm)) (fun b1 _ hn j q M hj hq hU e2=>by
    rw[Tr.du _ _ _ _ FP hj] at hq;by_cases e:j=s2.nx
    ·subst e;rw[iQ] at e2;cases e2;exact hn m _ N ht hg rfl hm
    ·rw[if_neg e,Tr.du _ _ _ _ ht hj] at hq;rw[gM ρ _ e] at e2;by_cases e3:j=m
     ·rw[if_pos e3] at hq;cases hq
     ·rw[if_neg e3] at hq;exact hn j q M hj hq hU e2) (fun j x sh _ _ e=>by rw[gM ρ _ (by have:=gg j x sh;omega)];exact e))
   refine⟨_,e0,rfl,?_,?_,fun i hi=>?_⟩
   ·exact(size_set LK).trans jt
   ·simp only[List.length_append];omega
   ·simp only[List.length_append] at hi;obtain⟨a,ha⟩:∃a,(dH++new)[i]? =some a:=⟨(dH++new)[i]'(by simp;exact hi),List.getElem?_eq_getElem _⟩;have mY:=zC (l:=dH++new) (i:=i) hlen (by simp;exact hi);obtain⟨v,hv,hr⟩:=(ho.append FO).get i a ha;refine⟨a,v,by rw[mY];exact ha,wx a<|List.mem_of_getElem? ha,?_,hr.mono<|oP ji⟩;simp only[List.getElem?_toArray];by_cases q:i<len*size
    ·rw[List.getElem?_append_left ak] at hv;have:=hold i v hv;simp only[World.cell?,hb,Nat.zero_add] at this;rw[List.append_assoc,List.getElem?_append_left wM,List.getElem?_take_of_lt q];simpa using this
    ·rw[List.getElem?_append_right ak] at hv;have hvi:i - vo.length<vn.toList.length:=(List.getElem?_eq_some_iff.1 hv).1;rw[List.append_assoc,List.getElem?_append_right wM];simp only[List.length_take,Array.length_toList];rw[Nat.min_eq_left ak,List.getElem?_append_left ak];rw[show i - len*size=i - vo.length from by omega];exact hv
 |_=>cases hp
theorem aaI{b:AV}(ha:VR ρ a va)(hb:VR ρ b vb)(fi:bF s)(r:Rel B ρ s.h w)(hf:dK s.nx s1.nx ρ)(h:pR P ts a b s= .ok x s1):
 jS P B ρ s s1 w x (Builtin.append_ ts 0 #[va,vb]):=by
 unfold pR at h;obtain⟨sT,h1,h⟩:=bw h;cases e1:P.underlying sT with
 |none=>simp only[e1] at h;cases h
 |some d=>
  cases d<;>simp only[e1] at h<;>first|(cases h;done)|skip
  rename_i elem;cases a<;>simp only at h<;>first|(cases h;done)|skip
  rename_i base len cap _;obtain⟨i,h2,h⟩:=bw h;obtain⟨h3,h⟩:=cY h;obtain⟨hz,hx⟩:=and_true.1 h3;obtain⟨n,h4,h⟩:=bw h;obtain⟨new,s2,h5,h⟩:=M.aR h;obtain⟨h6,h⟩:=cY h;have yV:=eB.1 h6;have hi:eD P elem=some i.size:=by simp[eD,h2]
  obtain⟨k1,k2,vn,k3,k4⟩:=Ja (P:=P) hb fi r h5;have rd:Rel B ρ s.h {w with drawn:=w.drawn+1}:=r.Fh<|gX.drew w;obtain⟨_,_,vn',Mk,Ml⟩:=Ja (P:=P) hb fi rd h5;have hn:=TY (P:=P) (w:=w) hb h4;have dI:bF s2:=(SF.firstCells _ _ _).cG fi h5;have r2:Rel B ρ s2.h w:=by rw[k1];exact r
  have AT:Rel B ρ s2.h {w with drawn:=w.drawn+1}:=by rw[k1];exact rd
  unfold rR at h;cases cap with
  |lost=>cases h
  |known c=>
   simp only at h;cases q:Nat.ble (len+n) c with
   |true=>
    simp only[q] at h;have hle:=aL.1 q;obtain⟨u,s3,h7,h8⟩:=M.aR h;obtain⟨rfl,rfl⟩:=bI h8;cases base with
    |none=>
     obtain⟨rfl,rfl⟩:=bI h7;obtain⟨rfl,hc,rfl⟩:=mB ha;cases hc;have py:n=0:=by omega
     subst py;refine⟨ρ,w,_,by rw[k2];exact Ext.refl _ _ _,J4 (P:=P) (w:=w) (base:=none) e1 h1 rfl hx hi hn hle k3 rfl,?_,r2,cP.refl _ _⟩;simp[VR]
    |some p=>obtain⟨m,j⟩:=p;have wQ:=ha;simp only[VR] at wQ;obtain⟨bb,N,hm,rfl⟩:=wQ;obtain⟨g1,w',g2,g3,g4⟩:=M8 (P:=P) dI r2 h7 hm k4;refine⟨ρ,w',_,by rw[g1,k2];exact Ext.refl _ _ _,J4 (P:=P) (w:=w) (base:=some ⟨bb,j,none⟩) e1 h1 rfl hx hi hn hle k3 (by show(storeCells ((Addr.mk bb j none).add<|len*i.size) vn.toList).run P w=_;rw[Addr.qJ];exact g2),?_,g3,g4⟩;simp only[VR];exact⟨bb,N,hm,rfl⟩
   |false=>
    simp only[q] at h;have cF:c<len+n:=by
     rcases Nat.lt_or_ge c (len+n) with e|e
     ·exact e
     ·rw[aL.2 e] at q;cases q
    obtain⟨dH,s3,h7,h8⟩:=M.aR h;obtain⟨j1,j2,vo,j3,j4⟩:=Ja (P:=P) ha dI AT h7;have Y7:=aal dI r2 ha (by intro e;cases e) h7;have:∃Xr:Option Addr,va= .slice Xr len c:=by
     cases base with
     |none=>obtain⟨rfl,hc,rfl⟩:=mB ha;cases hc;exact⟨_,rfl⟩
     |some p=>obtain⟨m,j⟩:=p;simp only[VR] at ha;obtain⟨_,_,_,rfl⟩:=ha;exact⟨_,rfl⟩
    obtain⟨Xr,hva⟩:=this;refine jS.nx (s2:=s3) (NR (P:=P) hva e1 h1 rfl hx h2 hz hn cF (by rw[j1];exact r2) (by rw[j2,k2];exact hf) Y7 yV j3 Mk j4 Ml h8) (by rw[j2,k2])
  |ar lo sz=>
   obtain⟨h7,h⟩:=cY h;have:=eB.1 h7;subst this;cases q:Nat.ble (len+n) lo with
   |true=>
    simp only[q] at h;have hle:=aL.1 q;cases base with
    |none=>cases h
    |some p=>
     obtain⟨m,j⟩:=p;simp only at h;obtain⟨u,s3,h8,h9⟩:=M.aR h;obtain⟨rfl,rfl⟩:=bI h9;have wQ:=ha;simp only[VR] at wQ;obtain⟨bb,N,c,hm,rfl,gI,Mm,hN⟩:=wQ;have LK:j+len*i.size+new.length<=N:=by have:(len+n)*i.size<=c*i.size:=Nat.mul_le_mul_right _ ak;rw[Nat.add_mul] at this;omega
     obtain⟨g1,w',g2,g3,g4⟩:=aaz (P:=P) dI r2 LK h8 hm k4;refine⟨ρ,w',_,by rw[g1,k2];exact Ext.refl _ _ _,J4 (P:=P) (w:=w) (base:=some ⟨bb,j,none⟩) e1 h1 rfl hx hi hn ak k3 (by show(storeCells ((Addr.mk bb j none).add<|len*i.size) vn.toList).run P w=_;rw[Addr.qJ];exact g2),?_,g3,g4⟩;simp only[VR];exact⟨bb,N,c,hm,rfl,gI,by omega,hN⟩
   |false=>
    simp only[q] at h;cases base with
    |none=>cases h
    |some p=>
     obtain⟨m,j⟩:=p;cases j with
     |succ j=>cases h
     |zero=>
      simp only at h;obtain⟨dH,s3,h8,h⟩:=M.aR h;obtain⟨ob,s4,h9,h⟩:=M.aR h;obtain⟨gH,h⟩:=cY h;obtain⟨u,s5,uY,rA⟩:=M.aR h;have wQ:=ha;simp only[VR] at wQ;obtain⟨bb,N,c,hm,rfl,gI,Mm,hN⟩:=wQ;obtain⟨j1,j2,j3,j4,vo,j5,j6,j7⟩:=zA (P:=P) dI r2 h8 hm;obtain⟨_,_,_,_,vo',Rq,Rr,_⟩:=zA (P:=P) dI AT h8 hm;obtain⟨i1,i2,i3,i4⟩:=fY h9;obtain⟨i5,i6,i7,i8,i9⟩:=jz uY;have hh:s4.h=s2.h:=i3.trans j1;have cJ:s4.nx=s.nx:=(i4.trans j2).trans k2;by_cases hq:len+n<=c
      ·refine jS.nx (s2:=s2) ?_ k2;refine S6 (P:=P) (s:=s2) (s2:=s5) (p:=ob) (vo:=vo) e1 h1 rfl hx hi hn hq r2 i6 (by rw[←j1];exact i2) gH hm ak (by rw[k2];exact hf) j3 yV (by rw[i8,hh]) (by rw[i9,cJ,k2]) k3 j7 j6 k4 rA
      ·have Rt:s4.h.get m≠some .jQ:=by intro e;rw[i3,i2] at e;injection e with e;subst e;cases gH
       refine jS.nx (s2:=s5) (NR (P:=P) rfl e1 h1 rfl hx h2 hz hn ak (by rw[i8];exact Rel.drop (by rw[hh];exact r2) i6 Rt) (by rw[i9,cJ];exact hf) j3 yV (by simpa[Builtin.firstCells] using Rq) Mk (by simpa using Rr) Ml rA) (by rw[i9,cJ])
theorem SQ{o k:Nat}{v:Value}{l:List AV}{SG:aO}(eO:B3 B SG)(ht:top<=n)(hb:VR ρ (.ab n o k) v)(fi:bF s)(r:Rel B ρ s.h w)(h:tP SG n o (k*size) s= .ok l s1):
 s1.h=s.h/\s1.nx=s.nx/\l.length=k*size/\(Builtin.lenOf v).run P w= .ok k w/\∃arr:Array Value,(Builtin.firstCells size k v).run P w= .ok arr w/\az ρ l arr.toList:=by
 rcases Nat.eq_zero_or_pos (k*size) with hk|hk
 ·rw[show tP SG n o (k*size)=M.pure [] from by rw[hk];rfl] at h;obtain⟨rfl,rfl⟩:=bI h;refine⟨rfl,rfl,hk.symm,?_⟩;simp only[VR] at hb;rcases hb with⟨_,rfl,a0,c,rfl,_⟩|⟨b,sh,c,e,rfl,_⟩
  ·refine⟨rfl, #[],?_,by simp[az]⟩;cases a0<;>simp[Builtin.firstCells,loadCells,loadCellsFrom]
  ·refine⟨rfl, #[],?_,by simp[az]⟩;simp[Builtin.firstCells,loadCells,loadCellsFrom,hk]
 rw[show tP SG n o (k*size)=(SG (.row n o<|k*size) []).bind fun x=>match x with
  | .agg l=>aF (Nat.beq l.length<|k*size) <| M.pure l
  |_=>fail from by obtain⟨m,hm⟩:∃m,k*size=m+1:=⟨k*size - 1,by omega⟩;rw[hm];rfl] at h
 obtain⟨x,s2,h1,h2⟩:=M.aR h;split at h2<;>first|(cases h2;done)|skip
 rename_i l';obtain⟨h3,h4⟩:=cY h2;obtain⟨rfl,rfl⟩:=bI h4;obtain⟨a1,a2,a3⟩:=eO _ _ _ _ _ _ _ _ fi r h1;have hlen:=eB.1 h3;refine⟨a1,a2,hlen,?_⟩;simp only[VR] at hb;rcases hb with⟨_,rfl,a0,c,rfl,hz⟩|⟨b,sh,c,e,rfl,_⟩
 ·have:l=[]:=List.eq_nil_of_length_eq_zero (by rw[hlen,Nat.zero_mul]);subst this;refine⟨rfl, #[],?_,by simp[az]⟩;cases a0<;>simp[Builtin.firstCells,loadCells,loadCellsFrom]
 ·obtain⟨l2,vs,e2,e3,e4,c',et,fr,e5,e6⟩:=a3 b sh<|e.high ht;injection e2 with e2
  subst e2;have Hx:=JK (P:=P) (w:=w) e5 e6;rw[e3] at Hx;exact⟨rfl,vs.toArray,by simpa[Builtin.firstCells] using Hx,by simpa using e4⟩
theorem aaX{n0 o0 k0:Nat}{SG:aO}(eO:B3 B SG)(hl:∀t a,SF<|SG t a)(ha:VR ρ a va)(hb:VR ρ (.ab n0 o0 k0) vb)(fi:bF s)(r:Rel B ρ s.h w)(hf:dK s.nx s1.nx ρ)(h:BL P SG ts a n0 o0 k0 s= .ok x s1):
 jS P B ρ s s1 w x (Builtin.append_ ts 0 #[va,vb]):=by
 unfold BL at h;obtain⟨dJ,h⟩:=cY h;have dJ:=aL.1 dJ;obtain⟨sT,h1,h⟩:=bw h;cases e1:P.underlying sT with
 |none=>simp only[e1] at h;cases h
 |some d=>
  cases d<;>simp only[e1] at h<;>first|(cases h;done)|skip
  rename_i elem;obtain⟨m,len,cap,rfl⟩:∃m len cap,a= .slice (some (m,0)) len cap:=by
   cases a with
   |slice base len cap=>
    cases base with
    |none=>cases h
    |some p=>
     obtain⟨m,j⟩:=p;cases j with
     |succ j=>cases h
     |zero=>exact⟨m,len,cap,rfl⟩
   |_=>cases h
  obtain⟨i,h2,h⟩:=bw h;obtain⟨h3,h⟩:=cY h;obtain⟨hz,hx⟩:=and_true.1 h3;obtain⟨dq,h⟩:=cY h;obtain⟨new,s2,h5,h⟩:=M.aR h;have hi:eD P elem=some i.size:=by simp[eD,h2]
  obtain⟨k1,k2,yV,hn,vn,k3,k4⟩:=SQ (P:=P) eO dJ hb fi r h5;have rd:Rel B ρ s.h {w with drawn:=w.drawn+1}:=r.Fh<|gX.drew w;obtain⟨_,_,_,_,vn',Mk,Ml⟩:=SQ (P:=P) eO dJ hb fi rd h5;have dI:bF s2:=(SF.tP hl _ _ _).cG fi h5;have r2:Rel B ρ s2.h w:=by rw[k1];exact r
  have AT:Rel B ρ s2.h {w with drawn:=w.drawn+1}:=by rw[k1];exact rd
  have wQ:∃bb N c,ρ m=some (bb,N)/\va= .slice (some ⟨bb,0,none⟩) len c/\len<=c/\0+c*i.size<=N:=by
   cases cap with
   |lost=>cases dq
   |known c=>obtain⟨q1,q2⟩:=and_true.1 dq;have q1:=eB.1 q1;have q2:=eB.1 q2;subst q1;subst q2;simp only[VR] at ha;obtain⟨bb,N,e,hv⟩:=ha;exact⟨bb,N,0,e,hv,Nat.le_refl _,by omega⟩
   |ar lo sz=>have:=eB.1 dq;subst this;simp only[VR] at ha;obtain⟨bb,N,c,hm,hv,_,Mm,hN⟩:=ha;exact⟨bb,N,c,hm,hv,Mm,hN⟩
  obtain⟨bb,N,c,hm,rfl,Mm,hN⟩:=wQ;obtain⟨dH,s3,h8,h⟩:=M.aR h;obtain⟨ob,s4,h9,h⟩:=M.aR h;obtain⟨gH,h⟩:=cY h;obtain⟨u,s5,uY,rA⟩:=M.aR h;obtain⟨j1,j2,j3,j4,vo,j5,j6,j7⟩:=zA (P:=P) dI r2 h8 hm;obtain⟨_,_,_,_,vo',Rq,Rr,_⟩:=zA (P:=P) dI AT h8 hm;obtain⟨i1,i2,i3,i4⟩:=fY h9;obtain⟨i5,i6,i7,i8,i9⟩:=jz uY;have hh:s4.h=s2.h:=i3.trans j1;have cJ:s4.nx=s.nx:=(i4.trans j2).trans k2;by_cases hq:len+k0<=c
  ·refine jS.nx (s2:=s2) ?_ k2;refine S6 (P:=P) (s:=s2) (s2:=s5) (p:=ob) (vo:=vo) e1 h1 rfl hx hi hn hq r2 i6 (by rw[←j1];exact i2) gH hm ak (by rw[k2];exact hf) j3 yV (by rw[i8,hh]) (by rw[i9,cJ,k2]) k3 j7 j6 k4 rA
  ·have Rt:s4.h.get m≠some .jQ:=by intro e;rw[i3,i2] at e;injection e with e;subst e;cases gH
   refine jS.nx (s2:=s5) (NR (P:=P) rfl e1 h1 rfl hx h2 hz hn ak (by rw[i8];exact Rel.drop (by rw[hh];exact r2) i6 Rt) (by rw[i9,cJ];exact hf) j3 yV (by simpa[Builtin.firstCells] using Rq) Mk (by simpa using Rr) Ml rA) (by rw[i9,cJ])
end
end Go.Rn
namespace Go.Rn
open Go.RowKit
variable {ts:Array TypeId} {vs:Array Value} {va:Value} {ty:TypeId} {consts:Array Bool} {b:Builtin} {a:AV}
section
variable {P:Program} {B:aI} {ρ:aw} {w:World} {s s1:AS} {x:AV} {SG:aO} {t:Tr AV} {ev:Operand->Value} {o:Oper}
theorem abp{b:AV}{vb:Value}(ha:VR ρ a va)(hb:VR ρ b vb)(fi:bF s)(r:Rel B ρ s.h w)(h:zS P ts a b s= .ok x s1):
 jS P B ρ s s1 w x (Builtin.copy_ ts 0 #[va,vb]):=by
 unfold zS at h;obtain⟨sT,h1,h⟩:=bw h;cases e1:P.underlying sT with
 |none=>simp only[e1] at h;cases h
 |some d=>
  cases d<;>simp only[e1] at h<;>first|(cases h;done)|skip
  rename_i elem;cases a<;>simp only at h<;>first|(cases h;done)|skip
  rename_i base len cap _;obtain⟨k,h2,h⟩:=bw h;obtain⟨n,h3,h⟩:=bw h;obtain⟨h4,h⟩:=cY h;obtain⟨cells,s2,h5,h⟩:=M.aR h;obtain⟨u,s3,h6,h7⟩:=M.aR h;obtain⟨rfl,rfl⟩:=bI h7;have hn:=TY (P:=P) (w:=w) hb h3;obtain⟨k1,k2,vn,k3,k4⟩:=Ja (P:=P) hb fi r h5;have dI:bF s2:=(SF.firstCells _ _ _).cG fi h5;have r2:Rel B ρ s2.h w:=by rw[k1];exact r
  cases base with
  |none=>obtain⟨_,rfl⟩:=bI h6;obtain⟨rfl,hc,rfl⟩:=mB ha;refine⟨ρ,w,.int .i64 (Nat.min n 0:Nat),by rw[k2];exact Ext.refl _ _ _,?_,by simp only[VR],r2,cP.refl _ _⟩;simp only[Builtin.copy_,h1,show(#[Value.slice none 0 0,vb]:Array Value)[0]? =some (.slice none 0 0) from rfl,show(#[Value.slice none 0 0,vb]:Array Value)[1]? =some vb from rfl,Sem.run_bind,dh e1,Result.andThen_ok,hn,gS h2,k3,Sem.run_pure,goInt]
  |some p=>
   obtain⟨m,i⟩:=p;have hq:∃bb N c,ρ m=some (bb,N)/\va= .slice (some ⟨bb,i,none⟩) len c:=by
    cases cap with
    |known c=>simp only[VR] at ha;obtain⟨bb,N,e,rfl⟩:=ha;exact⟨bb,N,c,e,rfl⟩
    |ar lo e0=>simp only[VR] at ha;obtain⟨bb,N,c,e,rfl,_⟩:=ha;exact⟨bb,N,c,e,rfl⟩
    |lost=>cases h4
   obtain⟨bb,N,c,hm,rfl⟩:=hq;obtain⟨g1,w',g2,g3,g4⟩:=M8 (P:=P) dI r2 h6 hm k4;refine⟨ρ,w',.int .i64 (Nat.min n len:Nat),by rw[g1,k2];exact Ext.refl _ _ _,?_,by simp only[VR],g3,g4⟩;simp only[Builtin.copy_,h1,show(#[Value.slice (some ⟨bb,i,none⟩) len c,vb]:Array Value)[0]? =some (.slice (some ⟨bb,i,none⟩) len c) from rfl,show(#[Value.slice (some ⟨bb,i,none⟩) len c,vb]:Array Value)[1]? =some vb from rfl,Sem.run_bind,dh e1,Result.andThen_ok,hn,gS h2,k3,Sem.run_pure,goInt,g2]
theorem dX.length:∀{x:List<|AV×AV} {l:List MapEntry},dX ρ x l->x.length=l.length
 |[],l,k=>by have k':l=[]:=k;subst k';rfl
 |_::_,_,k=>by obtain⟨e,es,rfl,_,_,d⟩:=k;simp[dX.length d]
theorem adk(ha:VR ρ a va)(fi:bF s)(r:Rel B ρ s.h w)(h:Aw P ts a s= .ok x s1):
    jS P B ρ s s1 w x (Builtin.len_ ts 0 #[va]):=by
  unfold Aw at h
  have h9:=M.aR h
  clear h
  obtain⟨sT,s0,h0,h⟩:=h9
  obtain⟨h1,Mn⟩:=gT h0
  clear h0
  subst Mn
  have Y8:(#[va]:Array Value)[0]? =some va:=rfl
  cases e1:P.underlying sT with
  |none=>simp only[e1] at h;cases h
  | some d=>
    have fin:∀n:Nat,(Builtin.len_ ts 0 #[va]).run P w= .ok (goInt n) w->x= .int .i64 n->s1.h=s0.h->s1.nx=s0.nx->jS P B ρ s0 s1 w x (Builtin.len_ ts 0 #[va]):=by
      intro n hr hx hh cJ
      subst hx
      exact⟨ρ,w,_,by rw[cJ];exact Ext.refl _ _ _,hr,by simp only[VR,goInt],by rw[hh];exact r,cP.refl _ _⟩
    cases d<;>simp only[e1] at h<;>first|(cases h;done)|skip
    case slice e=>
      cases a<;>first|(cases h;done)|skip
      case slice base len cap=>
        obtain⟨rfl,rfl⟩:=bI h
        have:∃p c,va= .slice p len c:=by
          cases base with
          |none=>obtain⟨rfl,_,rfl⟩:=mB ha;exact⟨_,_,rfl⟩
          |some p=>obtain⟨m,j⟩:=p;obtain⟨_,_,_,_,_,rfl⟩:=vw ha;exact⟨_,_,rfl⟩
        obtain⟨p,c,rfl⟩:=this
        refine fin _ ?_ rfl rfl rfl
        simp only[Builtin.len_,h1,Y8,Sem.run_bind,dh e1,Result.andThen_ok,Sem.run_pure]
      case ab n o len=>
        obtain⟨rfl,rfl⟩:=bI h
        simp only[VR] at ha
        rcases ha with⟨_,rfl,_,_,rfl,_⟩|⟨b,sh,c,_,rfl,_⟩<;>
        (refine fin _ ?_ rfl rfl rfl
         simp only[Builtin.len_,h1,Y8,Sem.run_bind,dh e1,Result.andThen_ok,Sem.run_pure])
theorem OC{f:AV->AV->Option AV}{g:Value->Value->Sem Value}(hf:∀a b c va vb,f a b=some c->VR ρ a va->VR ρ b vb->∃vc,(g va vb).run P w= .ok vc w/\VR ρ c vc):
 ∀{l:List AV} {vs:List Value} {a c:AV} {va:Value},Ej f l a=some c->az ρ l vs->VR ρ a va->∃vc,(vs.foldlM g va).run P w= .ok vc w/\VR ρ c vc
 |[],vs,a,c,va,h,hl,ha=>by
  simp only[az] at hl;subst hl;simp only[Ej] at h;injection h with h;subst h
  exact⟨va,rfl,ha⟩
 |y::l,vs,a,c,va,h,hl,ha=>by
  simp only[az] at hl;obtain⟨v,ys,rfl,hv,hl⟩:=hl;simp only[Ej] at h;cases e:f a y with
  |none=>rw[e] at h;cases h
  |some z=>simp only[e] at h;obtain⟨vz,g1,g2⟩:=hf a y z va v e ha hv;obtain⟨vc,g3,g4⟩:=OC hf h hl g2;exact⟨vc,by simp only[List.foldlM_cons,Sem.run_bind,g1,Result.andThen_ok,g3],g4⟩
theorem adl(a b c:AV)(va vb:Value)(h:min2 a b=some c)(ha:VR ρ a va)(hb:VR ρ b vb):∃vc,(Builtin.min2 va vb).run P w= .ok vc w/\VR ρ c vc:=by
 unfold min2 at h;split at h
 ·rename_i k x k2 y;injection h with h;subst h
  simp only[VR] at ha hb;subst ha;subst hb;refine⟨_,rfl,?_⟩;simp only[VR];by_cases q:y<x<;>simp[q]
 ·cases h
theorem adm(a b c:AV)(va vb:Value)(h:max2 a b=some c)(ha:VR ρ a va)(hb:VR ρ b vb):∃vc,(Builtin.max2 va vb).run P w= .ok vc w/\VR ρ c vc:=by
 unfold max2 at h;split at h
 ·rename_i k x k2 y;injection h with h;subst h
  simp only[VR] at ha hb;subst ha;subst hb;refine⟨_,rfl,?_⟩;simp only[VR];by_cases q:y>x<;>simp[q]
 ·cases h
theorem aaJ{l:List AV}(hl:az ρ l vs.toList)(fi:bF s)(r:Rel B ρ s.h w)(hf:dK s.nx s1.nx ρ)(h:zF P b ts l s= .ok x s1):gh P B ρ s s1 w x<|Go.builtin b ts ty consts vs:=by
 obtain⟨vs⟩:=vs;unfold zF at h;split at h
 ·rename_i y;simp only[az] at hl;obtain⟨v,ys,rfl,hv,rfl⟩:=hl;exact(adk hv fi r h).op
 ·rename_i y z;simp only[az] at hl;obtain⟨v,ys,rfl,hv,v2,FQ,rfl,sS,rfl⟩:=hl;exact(aaI hv sS fi r hf h).op
 ·rename_i y z;simp only[az] at hl;obtain⟨v,ys,rfl,hv,v2,FQ,rfl,sS,rfl⟩:=hl;exact(abp hv sS fi r h).op
 ·rename_i y z;simp only[az] at hl;obtain⟨v,ys,rfl,hv,hl⟩:=hl;obtain⟨h1,rfl⟩:=gT h;obtain⟨vc,g1,g2⟩:=OC (P:=P) (w:=w) adl h1 hl hv;exact jS.op (c:=Builtin.min_ ts ty ⟨v::ys⟩) ⟨ρ,w,vc,Ext.refl _ _ _,g1,g2,r,cP.refl _ _⟩
 ·rename_i y z;simp only[az] at hl;obtain⟨v,ys,rfl,hv,hl⟩:=hl;obtain⟨h1,rfl⟩:=gT h;obtain⟨vc,g1,g2⟩:=OC (P:=P) (w:=w) adm h1 hl hv;exact jS.op (c:=Builtin.max_ ts ty ⟨v::ys⟩) ⟨ρ,w,vc,Ext.refl _ _ _,g1,g2,r,cP.refl _ _⟩
 ·cases h
theorem abq{y:AV}{n q k:Nat}(eO:B3 B SG)(nH:∀t a,SF<|SG t a)(hl:az ρ [y,.ab n q k] vs.toList)(fi:bF s)(r:Rel B ρ s.h w)(hf:dK s.nx s1.nx ρ)(h:BL P SG ts y n q k s= .ok x s1):gh P B ρ s s1 w x<|Go.builtin .append ts ty consts vs:=by obtain⟨vs⟩:=vs;simp only[az] at hl;obtain⟨v,ys,rfl,hv,hl⟩:=hl;obtain⟨v2,FQ,rfl,sS,rfl⟩:=hl;exact(aaX eO nH hv sS fi r hf h).op
theorem aaK{args:Array Operand}(eO:B3 B SG)(nH:∀t a,SF<|SG t a)(he:∀x v,aK t x=some v->VR ρ v (ev x))(fi:bF s)(r:Rel B ρ s.h w)(hf:dK s.nx s1.nx ρ)(h:oK P b ts args.toList SG t s= .ok x s1)(ho:o.op= .call ⟨.builtin b,args,ts⟩):gh P B ρ s s1 w x<|execOp ev o:=by
 unfold oK at h;obtain⟨vs,h1,h2⟩:=bw h;have hl:=GN he h1;have key:(∃y n q k,b= .append/\vs=[y,.ab n q k]/\BL P SG ts y n q k s= .ok x s1)\/zF P b ts vs s= .ok x s1:=by
  split at h2
  ·exact .inl ⟨_,_,_,_,rfl,rfl,h2⟩
  ·exact .inr h2
 have all:∀consts:Array Bool,gh P B ρ s s1 w x<|Go.builtin b ts o.type consts<|args.map ev:=fun consts=>by
  rcases key with⟨y,n,q,k,rfl,rfl,h2⟩|h2
  ·exact abq eO nH (by simpa using hl) fi r hf h2
  ·exact aaJ (vs:=args.map ev) (by simpa using hl) fi r hf h2
 have:=all (args.map fun| .const _=>true|_=>false);obtain⟨σ,w',nv,a1,a2,a3⟩:=this;refine⟨σ,w',nv,a1,?_,a3⟩;simp only[execOp,ho,resolve,Sem.run_bind,Sem.run_pure,Result.andThen_ok,invoke];exact a2
end
end Go.Rn
namespace Go.Rn
open Go.RowKit
variable {key a:AV} {v:Value} {r:Option<|Nat×AV} {kd:TypeDesc} {k:TypeId} {l:List MapEntry} {es:List<|AV×AV}
section
variable {P:Program} {B:aI} {ρ:aw} {w:World} {s s1:AS} {x:AV} {SG:aO} {t:Tr AV} {ev:Operand->Value} {o:Oper}
theorem Ng{em:Bool}{d:Nat}{CY:TypeId->AV->Bool}(hc:∀ty a v,CY ty a=true->VR ρ a v->(Instr.checkKey em d ty v).run P w= .ok () w){cs:List AV}{ds:Array Value}(hx:az ρ cs ds.toList):∀{fs:List Field},Gq P CY cs fs=true->
 (forIn fs PUnit.unit fun f _=>do
  if f.name≠ "_" then do
   Instr.checkKey em d f.type (←part f.type ds f.offset)
   pure (ForInStep.yield PUnit.unit)
  else pure (ForInStep.yield PUnit.unit):Sem PUnit).run P w= .ok PUnit.unit w
 |[],_=>rfl
 |f::fs,h=>by
  simp only[Gq] at h;rw[List.forIn_cons];cases en:(f.name == "_") with
  |true=>
   simp only[en] at h;have:¬(f.name≠ "_"):=by simpa using en
   rw[if_neg this];simp only[Sem.run_bind,Sem.run_pure,Result.andThen_ok];exact Ng hc hx h
  |false=>
   simp only[en] at h;have cz:f.name≠ "_" :=by intro e;rw[e] at en;simp at en
   rw[if_pos cz];cases e1:vY P f.type cs f.offset with
   |none=>simp only[e1] at h;cases h
   |some a=>
    simp only[e1] at h;obtain⟨v,g1,g2⟩:=Gr (w:=w) hx e1;cases e2:CY f.type a with
    |false=>simp only[e2] at h;cases h
    |true=>simp only[e2] at h;simp only[Sem.run_bind,Sem.run_pure,Result.andThen_ok,g1,hc _ _ _ e2 g2];exact Ng hc hx h
theorem JB{em:Bool}:∀{d:Nat} {ty:TypeId} {a:AV} {v:Value},o8 P d ty a=true->VR ρ a v->(Instr.checkKey em d ty v).run P w= .ok () w
 |0,_,_,_,h,_=>by simp only[o8] at h;cases h
 |d+1,ty,a,v,h,ha=>by
  simp only[o8] at h;rw[Instr.checkKey];split at h<;>first|(cases h;done)|skip
  ·rename_i e;simp[dh e]
  ·rename_i e;simp[dh e]
  ·rename_i e;simp[dh e]
  ·rename_i fs cs e;simp only[VR] at ha;obtain⟨ds,rfl,hl⟩:=ha;simp only[Sem.run_bind,dh e,Result.andThen_ok];have:=Ng (P:=P) (w:=w) (em:=em) (d:=d) (fun ty a v h1 h2=>JB h1 h2) hl h;rw[←Array.forIn_toList];simp only[this,Result.andThen_ok,Sem.run_pure]
theorem Gm{b:AV}{c:Bool}{u:Value}(hk:P.underlying k=some kd)(hp:plainKey P k a=true)(h:sameKey a b=some c)(ha:VR ρ a v)(hb:VR ρ b u):Instr.sameNow kd v u=some c:=by
 unfold plainKey at hp;rw[hk] at hp;unfold sameKey at h;split at h<;>first|(cases h;done)|skip
 ·rename_i k1 x1 k2 x2;simp only[VR] at ha hb;subst ha;subst hb;cases yW:decide (k1=k2) with
  |false=>rw[yW] at h;cases h
  |true=>
   rw[yW] at h;injection h with h;subst h
   have:=of_decide_eq_true yW;cases kd<;>first|(cases hp;done)|simp[Instr.sameNow,this]
 ·injection h with h;subst h
  simp only[VR] at ha hb;subst ha;subst hb;cases kd<;>first|(cases hp;done)|simp[Instr.sameNow]
 ·injection h with h;subst h
  simp only[VR] at ha hb;subst ha;subst hb;cases kd<;>first|(cases hp;done)|simp[Instr.sameNow]
def EN(ρ:aw)(es:List<|AV×AV)(l:List MapEntry)(i:Nat):Option (Nat×AV)->Option (Nat×Value)->Prop
 |none,r=>r=none
 |some (j,x),r=>∃y q e,r=some (j,y)/\VR ρ x y/\i<=j/\es[j - i]? =some q/\l[j - i]? =some e/\VR ρ q.1 e.key/\q.2=x/\e.val=y
theorem EN.next{i:Nat}{p:AV×AV}{e:MapEntry}{r':Option<|Nat×Value}(h:EN ρ es l (i+1) r r'):EN ρ (p::es) (e::l) i r r':=by
 cases r with
 |none=>exact h
 |some q=>
  obtain⟨j,x⟩:=q;obtain⟨y,q,e2,h1,h2,h3,h4,h5,h6⟩:=h;refine⟨y,q,e2,h1,h2,by omega,?_,?_,h6⟩
  ·rw[show j - i=(j - (i+1))+1 from by omega];simpa using h4
  ·rw[show j - i=(j - (i+1))+1 from by omega];simpa using h5
theorem SM{k:TypeId}{kd:TypeDesc}{key:AV}{v:Value}(hk:P.underlying k=some kd)(hp:plainKey P k key=true)(hv:VR ρ key v):∀{es:List<|AV×AV} {l:List MapEntry} {i:Nat} {r:Option<|Nat×AV},
 dX ρ es l->lf key es i=some r->∃r',Instr.findNow kd v l i=some r'/\EN ρ es l i r r'
 |[],l,i,r,he,h=>by
  have Iw:l=[]:=he;subst Iw;simp only[lf] at h;injection h with h;subst h
  exact⟨none,rfl,rfl⟩
 |(a,b)::es,l,i,r,he,h=>by
  obtain⟨e,l',rfl,h1,h2,h3⟩:=he;simp only[lf] at h;cases q:sameKey key a with
  |none=>rw[q] at h;cases h
  |some c=>
   have:=Gm hk hp q hv h1;cases c with
   |true=>
    simp only[q] at h;injection h with h;subst h
    exact⟨some (i,e.val),by simp only[Instr.findNow,this],e.val,(a,b),e,rfl,h2,Nat.le_refl _,by simp,by simp,h1,rfl,rfl⟩
   |false=>simp only[q] at h;obtain⟨r',g1,g2⟩:=SM hk hp hv h3 h;exact⟨r',by simp only[Instr.findNow,this];exact g1,g2.next⟩
theorem SR{k:TypeId}{key:AV}{v:Value}(hv:VR ρ key v):∀{es:List<|AV×AV} {l:List MapEntry} {i:Nat} {r:Option<|Nat×AV},
 dX ρ es l->GL P k key es i=some r->∃r',(Instr.findAsking k v l i).run P w= .ok r' w/\EN ρ es l i r r'
 |[],l,i,r,he,h=>by
  have Iw:l=[]:=he;subst Iw;simp only[GL] at h;injection h with h;subst h
  exact⟨none,rfl,rfl⟩
 |(a,b)::es,l,i,r,he,h=>by
  obtain⟨e,l',rfl,h1,h2,h3⟩:=he;simp only[GL] at h;cases q:qw P Op.maxDepth k key a with
  |none=>rw[q] at h;cases h
  |some c=>
   have hq:(Op.equal k v e.key).run P w= .ok c w:=J3 q hv h1;cases c with
   |true=>
    simp only[q] at h;injection h with h;subst h
    exact⟨some (i,e.val),by simp[Instr.findAsking,hq],e.val,(a,b),e,rfl,h2,Nat.le_refl _,by simp,by simp,h1,rfl,rfl⟩
   |false=>simp only[q] at h;obtain⟨r',g1,g2⟩:=SR hv h3 h;exact⟨r',by simp[Instr.findAsking,hq,g1],g2.next⟩
theorem ago{k:IntKind}{n:Int}(ha:VR ρ a<|.int k n):a= .int k n:=by
 cases a<;>(try simp only[VR] at ha)<;>first|(cases ha;rfl)|(cases ha;done)|skip
 ·rename_i q;cases q<;>simp only[VR] at ha<;>first|(cases ha;done)|(obtain⟨_,_,_,e⟩:=ha;cases e)
 ·rename_i q l c;cases q with
  |none=>obtain⟨_,_,e⟩:=mB ha;cases e
  |some q=>obtain⟨n,i⟩:=q;obtain⟨_,_,_,_,_,e⟩:=vw ha;cases e
 ·rcases ha with⟨_,_,_,_,e,_⟩|⟨_,_,_,_,e,_⟩<;>cases e
 ·obtain⟨_,_,_,e⟩:=ha;cases e
 ·rename_i q;cases q<;>simp only[VR] at ha<;>first|(cases ha;done)|(obtain⟨_,_,_,e⟩:=ha;cases e)
 ·obtain⟨_,_,_,e,_⟩:=ha;cases e
 ·obtain⟨_,_,_,e⟩:=ha;cases e
 ·obtain⟨_,e,_⟩:=ha;cases e
 ·obtain⟨_,e,_⟩:=ha;cases e
 ·obtain⟨_,e,_⟩:=ha;cases e
theorem agp{q:ByteArray}(hz:uS a=true)(ha:VR ρ a<|.string q):a= .str q:=by
 cases a<;>(try cases hz;done)<;>(try simp only[VR] at ha)<;>first|(cases ha;rfl)|(cases ha;done)|skip
 ·rename_i q;cases q<;>simp only[VR] at ha<;>first|(cases ha;done)|(obtain⟨_,_,_,e⟩:=ha;cases e)
 ·rename_i q l c;cases q with
  |none=>obtain⟨_,_,e⟩:=mB ha;cases e
  |some q=>obtain⟨n,i⟩:=q;obtain⟨_,_,_,_,_,e⟩:=vw ha;cases e
 ·rcases ha with⟨_,_,_,_,e,_⟩|⟨_,_,_,_,e,_⟩<;>cases e
 ·obtain⟨_,_,_,e⟩:=ha;cases e
 ·rename_i q;cases q<;>simp only[VR] at ha<;>first|(cases ha;done)|(obtain⟨_,_,_,e⟩:=ha;cases e)
 ·obtain⟨_,_,_,e,_⟩:=ha;cases e
 ·obtain⟨_,_,_,e⟩:=ha;cases e
 ·obtain⟨_,e,_⟩:=ha;cases e
 ·obtain⟨_,e,_⟩:=ha;cases e
 ·obtain⟨_,e,_⟩:=ha;cases e
theorem VG{b:Bool}(ha:VR ρ a<|.bool b):a= .bool b:=by
 cases a<;>(try simp only[VR] at ha)<;>first|(cases ha;rfl)|(cases ha;done)|skip
 ·rename_i q;cases q<;>simp only[VR] at ha<;>first|(cases ha;done)|(obtain⟨_,_,_,e⟩:=ha;cases e)
 ·rename_i q l c;cases q with
  |none=>obtain⟨_,_,e⟩:=mB ha;cases e
  |some q=>obtain⟨n,i⟩:=q;obtain⟨_,_,_,_,_,e⟩:=vw ha;cases e
 ·rcases ha with⟨_,_,_,_,e,_⟩|⟨_,_,_,_,e,_⟩<;>cases e
 ·obtain⟨_,_,_,e⟩:=ha;cases e
 ·rename_i q;cases q<;>simp only[VR] at ha<;>first|(cases ha;done)|(obtain⟨_,_,_,e⟩:=ha;cases e)
 ·obtain⟨_,_,_,e,_⟩:=ha;cases e
 ·obtain⟨_,_,_,e⟩:=ha;cases e
 ·obtain⟨_,e,_⟩:=ha;cases e
 ·obtain⟨_,e,_⟩:=ha;cases e
 ·obtain⟨_,e,_⟩:=ha;cases e
theorem adn(hk:P.underlying k=some kd)(hz:uS key=true)(hp:plainKey P k key=false)(hv:VR ρ key v)(u:Value):Instr.sameNow kd v u=none:=by
 cases e:Instr.sameNow kd v u with
 |none=>rfl
 |some c=>
  exfalso;unfold Instr.sameNow at e;unfold plainKey at hp;rw[hk] at hp;split at e<;>first|(cases e;done)|skip
  ·rw[ago hv] at hp;cases hp
  ·rw[agp hz hv] at hp;cases hp
  ·rw[VG hv] at hp;cases hp
theorem WL{o:Option<|Option<|Nat×AV}(h:(match uS key with|false=>none|true=>o)=some r):uS key=true:=by
 cases hz:uS key with
 |false=>rw[hz] at h;cases h
 |true=>rfl
theorem S7(hk:P.underlying k=some kd)(hv:VR ρ key v)(he:dX ρ es l)(h:findKey P k key es=some r):
 ∃r',(Instr.findKey k v l).run P w= .ok r' w/\EN ρ es l 0 r r':=by
 unfold findKey at h;cases hz:uS key with
 |false=>rw[hz] at h;cases h
 |true=>
 simp only[hz] at h;cases hp:plainKey P k key with
 |true=>simp only[hp] at h;obtain⟨r',g1,g2⟩:=SM hk hp hv he h;exact⟨r',MapKept.run_findKey hk g1,g2⟩
 |false=>
  simp only[hp] at h;obtain⟨r',g1,g2⟩:=SR (P:=P) (w:=w) hv he h;refine⟨r',?_,g2⟩;cases l with
  |nil=>
   have C2:Result.ok none w=Result.ok r' w:=g1;injection C2 with C2;subst C2
   exact MapKept.run_findKey hk rfl
  |cons e l=>
   have:Instr.findNow kd v (e::l) 0=none:=by simp only[Instr.findNow,adn hk hz hp hv e.key]
   simp only[Instr.findKey,Sem.run_bind,dh hk,Result.andThen_ok,this];exact g1
theorem M9:∀{es:List<|AV×AV} {i:Nat},lf key es i=some none->∀p∈es,sameKey key p.1=some false
 |[],_,_,p,hp=>by cases hp
 |(a,b)::es,i,h,p,hp=>by
  simp only[lf] at h;cases q:sameKey key a with
  |none=>rw[q] at h;cases h
  |some c=>
   cases c with
   |true=>simp only[q] at h;cases h
   |false=>
    simp only[q] at h;rcases List.mem_cons.1 hp with rfl|hp
    ·exact q
    ·exact M9 h p hp
theorem SH{key:AV}:∀{es:List<|AV×AV} {i j:Nat} {x:AV},lf key es i=some (some (j,x))->i<=j/\∃q,es[j - i]? =some q/\q.2=x/\sameKey key q.1=some true
 |[],_,_,_,h=>by simp[lf] at h
 |(a,b)::es,i,j,x,h=>by
  simp only[lf] at h;cases q:sameKey key a with
  |none=>rw[q] at h;cases h
  |some c=>
   cases c with
   |true=>
    simp only[q] at h;injection h with h;injection h with h;injection h with h1 h2;subst h1;subst h2
    exact⟨Nat.le_refl _,(a,b),by simp,rfl,q⟩
   |false=>simp only[q] at h;obtain⟨h1,p,h2,h3⟩:=SH h;refine⟨by omega,p,?_,h3⟩;rw[show j - i=(j - (i+1))+1 from by omega];simpa using h2
end
end Go.Rn
namespace Go.Rn
open Go.RowKit
variable {v u:Value} {a b key:AV} {l l':List MapEntry} {es:List<|AV×AV} {ty:TypeId} {kd:TypeDesc}
theorem Nj(h:sameKey a b=some true)(c:AV):sameKey a c=sameKey b c:=by
 unfold sameKey at h;split at h<;>first|(cases h;done)|skip
 ·rename_i k x k' y;cases hk:decide (k=k') with
  |false=>rw[hk] at h;cases h
  |true=>
   rw[hk] at h;injection h with h
   have e1:=of_decide_eq_true hk;have e2:x=y:=by simpa using h
   rw[e1,e2]
 ·rename_i x y;injection h with h
  rw[bytes_beq] at h;have e:x.toList=y.toList:=by simpa using h
  cases c<;>first|rfl|simp only[sameKey,bytes_beq,e]
 ·rename_i x y;injection h with h
  have e:x=y:=by simpa using h
  rw[e]
theorem Nk(a b:AV):sameKey a b=sameKey b a:=by
 cases a<;>cases b<;>first|rfl|skip
 ·rename_i x y;cases x<;>cases y<;>rfl
 ·rename_i k x k' y;by_cases e:k=k'
  ·subst e;show(match decide (k=k) with|true=>some (x == y)|false=>none)=(match decide (k=k) with|true=>some (y == x)|false=>none);rw[decide_eq_true (rfl:k=k)];show some (x == y)=some (y == x);rw[BEq.comm]
  ·show(match decide (k=k') with|true=>some (x == y)|false=>none)=(match decide (k'=k) with|true=>some (y == x)|false=>none);rw[decide_eq_false e,decide_eq_false<|Ne.symm e]
 ·rename_i x y;show some (x == y)=some (y == x);rw[bytes_beq,bytes_beq,BEq.comm]
theorem lG.at{es:List<|AV×AV}(h:lG es){i j:Nat}{p q:AV×AV}(hi:es[i]? =some p)(hj:es[j]? =some q)(cz:i≠j):sameKey p.1 q.1=some false:=by
 unfold lG at h;rw[List.pairwise_iff_getElem] at h;obtain⟨li,ei⟩:=List.getElem?_eq_some_iff.1 hi;obtain⟨lj,ej⟩:=List.getElem?_eq_some_iff.1 hj;rcases Nat.lt_or_ge i j with q'|q'
 ·have:=(h i j li lj q').1;rw[ei,ej] at this;exact this
 ·have:=(h j i lj li ak).2;rw[ei,ej] at this;exact this
theorem Nz{ρ:aw}(h:sameKey a b=some true)(ha:VR ρ a v)(hb:VR ρ b u)(m:Nat):Instr.sameBits m v u=true:=by
 unfold sameKey at h;split at h<;>first|(cases h;done)|skip
 ·rename_i k x k' y;cases hk:decide (k=k') with
  |false=>rw[hk] at h;cases h
  |true=>
   rw[hk] at h;injection h with h
   simp only[VR] at ha hb;subst ha;subst hb;have e1:=of_decide_eq_true hk;subst e1;cases m<;>simpa[Instr.sameBits] using h
 ·injection h with h
  simp only[VR] at ha hb;subst ha;subst hb;cases m<;>simpa[Instr.sameBits] using h
 ·injection h with h
  simp only[VR] at ha hb;subst ha;subst hb;cases m<;>simpa[Instr.sameBits] using h
theorem S8{ρ:aw}(m:Nat):∀{xs ys:List AV} {vs us:List Value},D6 xs ys=true->az ρ xs vs->az ρ ys us->vs.length=us.length/\((vs.zip us).all fun(x,y)=>Instr.sameBits m x y)=true
 |[],[],vs,us,_,h1,h2=>by simp only[az] at h1 h2;subst h1;subst h2;simp
 |[],_::_,_,_,h,_,_=>by simp[D6] at h
 |_::_,[],_,_,h,_,_=>by simp[D6] at h
 |x::xs,y::ys,vs,us,h,h1,h2=>by
  simp only[az] at h1 h2;obtain⟨v,vs,rfl,a1,b1⟩:=h1;obtain⟨u,us,rfl,a2,b2⟩:=h2;simp only[D6] at h;cases e:sameKey x y with
  |none=>rw[e] at h;cases h
  |some c=>
   cases c with
   |false=>rw[e] at h;cases h
   |true=>rw[e] at h;obtain⟨p,q⟩:=S8 m h b1 b2;exact⟨by simp[p],by simp only[List.zip_cons_cons,List.all_cons,Nz e a1 a2 m,Bool.true_and];exact q⟩
theorem aaL{ρ:aw}(h:sameBits a b=true)(ha:VR ρ a v)(hb:VR ρ b u)(m:Nat):Instr.sameBits (m+1) v u=true:=by
 unfold sameBits at h;split at h
 ·rename_i xs ys;simp only[VR] at ha hb;obtain⟨vs,rfl,h1⟩:=ha;obtain⟨us,rfl,h2⟩:=hb;obtain⟨p,q⟩:=S8 m h h1 h2;simp only[Instr.sameBits,Bool.and_eq_true,beq_iff_eq];exact⟨by simpa using p,q⟩
 ·split at h
  ·rename_i e;exact Nz e ha hb _
  ·cases h
theorem T0{P:Program}{w:World}(h:Instr.sameBits 10000 v u=true):(Instr.keyThatStays v u).run P w= .ok u w:=by simp[Instr.keyThatStays,h]
theorem SS:∀{l:List MapEntry} {i:Nat},(∀e∈l,Instr.sameNow kd v e.key=some false)->Instr.findNow kd v l i=some none
 |[],_,_=>rfl
 |e::l,i,h=>by simp only[Instr.findNow,h e List.mem_cons_self];exact SS fun e he=>h e<|List.mem_cons_of_mem _ he
theorem SU{kd:TypeDesc}{v:Value}:∀{l:List MapEntry} {i:Nat},(∀e∈l,∃c,Instr.sameNow kd v e.key=some c)->(∃e∈l,Instr.sameNow kd v e.key=some true)->
 ∃j e,l[j]? =some e/\Instr.sameNow kd v e.key=some true/\Instr.findNow kd v l i=some (some (i+j,e.val))
 |[],_,_,h=>by obtain⟨_,h,_⟩:=h;cases h
 |e::l,i,h,k=>by
  obtain⟨c,hc⟩:=h e List.mem_cons_self;cases c with
  |true=>exact⟨0,e,rfl,hc,by simp only[Instr.findNow,hc,Nat.add_zero]⟩
  |false=>
   obtain⟨e2,h2,h3⟩:=k;have sU:e2∈l:=by
    rcases List.mem_cons.1 h2 with rfl|h2
    ·rw[hc] at h3;cases h3
    ·exact h2
   obtain⟨j,e3,g1,g2,g3⟩:=SU (i:=i+1) (fun e he=>h e<|List.mem_cons_of_mem _ he) ⟨e2,sU,h3⟩;exact⟨j+1,e3,by simpa using g1,g2,by simp only[Instr.findNow,hc];rw[g3];congr 3;omega⟩
section
variable {P:Program} {B:aI} {ρ:aw} {w:World} {s s1:AS} {x:AV} {SG:aO} {t:Tr AV} {ev:Operand->Value} {o:Oper}
theorem dX.get:∀{es:List<|AV×AV} {l:List MapEntry} {i:Nat} {e:MapEntry},dX ρ es l->l[i]? =some e->∃p,es[i]? =some p/\VR ρ p.1 e.key/\VR ρ p.2 e.val
 |[],l,i,e,h,k=>by have h':l=[]:=h;subst h';simp at k
 |p::es,l,i,e,h,k=>by
  obtain⟨e2,l2,rfl,h1,h2,h3⟩:=h;cases i with
  |zero=>simp at k;subst k;exact⟨p,rfl,h1,h2⟩
  |succ i=>simp at k;obtain⟨q,g1,g2⟩:=h3.get k;exact⟨q,by simpa using g1,g2⟩
theorem dX.get'{i:Nat}{p:AV×AV}(h:dX ρ es l)(k:es[i]? =some p):∃e,l[i]? =some e/\VR ρ p.1 e.key/\VR ρ p.2 e.val:=by obtain⟨li,ei⟩:=List.getElem?_eq_some_iff.1 k;have hl:=h.length;have hi:l[i]? =some (l[i]'ak):=List.getElem?_eq_getElem _;obtain⟨q,g1,g2⟩:=h.get hi;rw[k] at g1;cases g1;exact⟨_,hi,g2⟩
theorem S9{k:TypeId}{r:Option<|Nat×AV}(hk:P.underlying k=some kd)(hp:plainKey P k key=true)(hv:VR ρ key v)(ka:lG es)(he:dX ρ es l')(hl:l.Perm l')(h:lf key es 0=some r):
 (r=none->Instr.findNow kd v l 0=some none)/\(∀j y,r=some (j,y)->∃j' e,Instr.findNow kd v l 0=some (some (j',e.val))/\l[j']? =some e/\l'[j]? =some e/\VR ρ y e.val/\∃p,es[j]? =some p/\sameKey key p.1=some true):=by
 have au:∀e∈l,∃(j:Nat) (p:AV×AV),l'[j]? =some e/\es[j]? =some p/\VR ρ p.1 e.key/\VR ρ p.2 e.val:=by
  intro e hm;obtain⟨j,hj,e1⟩:=List.getElem_of_mem<|hl.mem_iff.1 hm;have wR:l'[j]? =some e:=by rw[List.getElem?_eq_getElem hj,e1]
  obtain⟨p,g1,g2,g3⟩:=he.get wR;exact⟨j,p,wR,g1,g2,g3⟩
 constructor
 ·intro hr;subst hr;refine SS fun e hm=>?_;obtain⟨j,p,g1,g2,g3,g4⟩:=au e hm;exact Gm hk hp (M9 h p<|List.mem_of_getElem? g2) hv g3
 ·intro j y hr;subst hr;obtain⟨_,q,h1,h2,h3⟩:=SH h;rw[Nat.sub_zero] at h1;have all:∀e∈l,∃(j2:Nat) (p:AV×AV),l'[j2]? =some e/\es[j2]? =some p/\VR ρ p.2 e.val/\Instr.sameNow kd v e.key=some (decide<|j2=j):=by
   intro e hm;obtain⟨j2,p,g1,g2,g3,g4⟩:=au e hm;refine⟨j2,p,g1,g2,g4,?_⟩;by_cases e2:j2=j
   ·subst e2;rw[h1] at g2;cases g2;simp only[decide_true];exact Gm hk hp h3 hv g3
   ·rw[decide_eq_false e2];refine Gm hk hp ?_ hv g3;rw[Nj h3];exact ka.at h1 g2<|Ne.symm e2
  obtain⟨e0,g1,g2,g3⟩:=he.get' h1;have AU:e0∈l:=hl.mem_iff.2<|List.mem_of_getElem? g1;obtain⟨j',e,f1,f2,f3⟩:=SU (kd:=kd) (v:=v) (l:=l) (i:=0) (fun e hm=>let ⟨_,_,_,_,_,h⟩:=all e hm;⟨_,h⟩) ⟨e0,AU,Gm hk hp h3 hv g2⟩;rw[Nat.zero_add] at f3;obtain⟨j2,p,a1,a2,a3,a4⟩:=all e<|List.mem_of_getElem? f1;rw[f2] at a4;injection a4 with a4
  have e2:j2=j:=by simpa using a4.symm
  subst e2;rw[h1] at a2;cases a2;exact⟨j',e,f3,f1,a1,by rw[←h2];exact a3,q,h1,h3⟩
theorem abr(h:short es=true)(he:dX ρ es l')(hl:l.Perm l'):dX ρ es l:=by
 have hlen:=he.length;unfold short at h;split at h<;>first|(cases h;done)|skip
 ·have:l'=[]:=by cases l'<;>first|rfl|simp at hlen
  subst this;rw[List.perm_nil.1 hl];exact he
 ·match l',hlen,hl,he with
  |[e],_,hl,he=>rw[List.perm_singleton.1 hl];exact he
theorem VR.AR{ok b:Bool}{y:AV}{v:Value}(h:VR ρ y v):VR ρ (AR ok y b) (if ok=true then .tuple #[v,.bool b] else v):=by
 cases ok with
 |false=>exact h
 |true=>simp only[Rn.AR,if_true,VR,az];exact⟨_,rfl,v,_,rfl,h,.bool b,_,rfl,rfl,rfl⟩
theorem NA:∀{d:Nat} {k:TypeId} {key:AV},o8 P d k key=true->∃kd,P.underlying k=some kd
 |0,_,_,h=>by simp only[o8] at h;cases h
 |d+1,k,key,h=>by
  simp only[o8] at h;cases q:P.underlying k with
  |none=>rw[q] at h;cases h
  |some kd=>exact⟨kd,rfl⟩
theorem aaY{ok:Bool}{va vk:Value}(ha:VR ρ a va)(qh:VR ρ key vk)(fi:bF s)(r:Rel B ρ s.h w)(h:zM P ty a key ok s= .ok x s1):
 jS P B ρ s s1 w x (Instr.lookup ty va vk ok):=by
 unfold zM at h;cases e1:P.underlying ty with
 |none=>simp only[e1] at h;cases h
 |some d=>
  cases d<;>simp only[e1] at h<;>first|(cases h;done)|skip
  rename_i k e;obtain⟨es,s2,h1,h2⟩:=M.aR h;obtain⟨h3,h4⟩:=cY h2;obtain⟨f,h5,h6⟩:=bw h4;have sW:∃kd,P.underlying k=some kd:=by exact NA h3
  obtain⟨kd,sW⟩:=sW;have wT:∀em,(Instr.checkKey em 10000 k vk).run P w= .ok () w:=fun em=>JB h3 qh;have main:∃l:Array MapEntry,((va= .map none/\l= #[])\/∃b bg,va= .map (some b)/\w.heap[b]? =some (.map l bg))/\s2.h=s.h/\s2.nx=s.nx/\
   ∃r',(Instr.findKey k vk l.toList).run P w= .ok r' w/\(f=none->r'=none)/\(∀j y,f=some (j,y)->∃j' z,r'=some (j',z)/\VR ρ y z):=by
   have exact:∀l:Array MapEntry,dX ρ es l.toList->∃r',(Instr.findKey k vk l.toList).run P w= .ok r' w/\(f=none->r'=none)/\(∀j y,f=some (j,y)->∃j' z,r'=some (j',z)/\VR ρ y z):=by intro l he;obtain⟨r',g1,g2⟩:=S7 (P:=P) (w:=w) sW qh he h5;refine⟨r',g1,fun q=>by subst q;exact g2,fun j y q=>?_⟩;subst q;obtain⟨z,_,_,q1,q2,_⟩:=g2;exact⟨j,z,q1,q2⟩
   unfold zT at h1;split at h1
   ·obtain⟨rfl,rfl⟩:=bI h1;simp only[VR] at ha;subst ha;exact⟨#[],.inl ⟨rfl,rfl⟩,rfl,rfl,exact #[] rfl⟩
   ·rename_i m;obtain⟨ob,s3,h7,h8⟩:=M.aR h1;obtain⟨hx,hg,hh,cJ⟩:=fY h7;have ht:m<top:=Nat.lt_of_lt_of_le hx fi.nx;simp only[VR] at ha;obtain⟨b,N,hm,rfl⟩:=ha;obtain⟨o',hb,hO,_⟩:=r.block ht hg hm;cases ob with
    |map hJ bg=>obtain⟨rfl,rfl⟩:=bI h8;obtain⟨l,rfl,_,q⟩:=hO;exact⟨l,.inr ⟨b,bg,rfl,hb⟩,hh,cJ,exact l q.eqs⟩
    |lH hJ=>
     obtain⟨h9,gH⟩:=cY h8;obtain⟨rfl,rfl⟩:=bI gH;obtain⟨l,bg,rfl,ka,_,l',hp,he⟩:=hO;refine⟨l,.inr ⟨b,bg,rfl,hb⟩,hh,cJ,?_⟩;cases q:plainKey P k key with
     |false=>rw[q] at h9;exact exact l<|abr h9 he hp
     |true=>
      unfold findKey at h5;have hz:uS _=true:=WL h5;simp only[hz] at h5;simp only[q] at h5;obtain⟨g1,g2⟩:=S9 sW q qh ka he hp h5;cases f with
      |none=>exact⟨none,MapKept.run_findKey sW<|g1 rfl,(fun _=>rfl),(fun j y e=>by cases e)⟩
      |some p=>obtain⟨j,y⟩:=p;obtain⟨j',e,f1,_,_,f2,_⟩:=g2 j y rfl;exact⟨some (j',e.val),MapKept.run_findKey sW f1,(fun e=>by cases e),(fun j y e2=>by cases e2;exact⟨j',_,rfl,f2⟩)⟩
    |_=>cases h8
   ·cases h1
  obtain⟨l,m1,m2,m3,r',m4,m5,m6⟩:=main;cases f with
  |some p=>
   obtain⟨j,y⟩:=p;obtain⟨rfl,rfl⟩:=bI h6;obtain⟨j',z,rfl,hz⟩:=m6 j y rfl;refine⟨ρ,w,_,by rw[m3];exact Ext.refl _ _ _,?_,hz.AR,by rw[m2];exact r,cP.refl _ _⟩;rcases m1 with⟨rfl,rfl⟩|⟨b,bg,rfl,hb⟩
   ·simp only[Instr.lookup,Sem.run_bind,dh e1,Result.andThen_ok,wT,m4,Sem.run_pure]
   ·simp only[Instr.lookup,Sem.run_bind,dh e1,Result.andThen_ok,MapKept.run_getObj_map hb,wT,m4,Sem.run_pure]
  |none=>
   obtain⟨z,h7,h8⟩:=bw h6;obtain⟨rfl,rfl⟩:=bI h8;have:=m5 rfl;subst this;obtain⟨vz,g1,g2⟩:=Jl (P:=P) (w:=w) ρ h7;refine⟨ρ,w,_,by rw[m3];exact Ext.refl _ _ _,?_,g2.AR,by rw[m2];exact r,cP.refl _ _⟩;rcases m1 with⟨rfl,rfl⟩|⟨b,bg,rfl,hb⟩
   ·simp only[Instr.lookup,Sem.run_bind,dh e1,Result.andThen_ok,wT,m4,Sem.run_pure,g1]
   ·simp only[Instr.lookup,Sem.run_bind,dh e1,Result.andThen_ok,MapKept.run_getObj_map hb,wT,m4,Sem.run_pure,g1]
theorem aaZ{y z:Operand}{ok:Bool}(he:∀x v,aK t x=some v->VR ρ v (ev x))(fi:bF s)(r:Rel B ρ s.h w)(h:xO P ty y z ok SG t s= .ok x s1)(ho:o.op= .lookup ty y z ok):gh P B ρ s s1 w x<|execOp ev o:=by unfold xO at h;obtain⟨a,h1,h2⟩:=bw h;obtain⟨b,h3,h4⟩:=bw h2;have:=(aaY (P:=P) (he y a h1) (he z b h3) fi r h4).op;simpa only[execOp,ho] using this
end
end Go.Rn
namespace Go.Rn
open Go.RowKit
variable {key:AV} {vv vk:Value} {es:List<|AV×AV} {e:MapEntry} {ty:TypeId} {l:List MapEntry} {i bg:Nat}
theorem T1:∀(es:List<|AV×AV) (i j:Nat) (k v:AV),(putAt es i k v)[j]? =if j=i then(es[j]?).map (fun _=>(k,v)) else es[j]?
 |[],i,j,k,v=>by simp[putAt]
 |p::es,0,j,k,v=>by cases j<;>simp[putAt]
 |p::es,i+1,j,k,v=>by
  cases j with
  |zero=>simp[putAt]
  |succ j=>simp[putAt,T1 es i j k v]
theorem SV:∀(es:List<|AV×AV) (i:Nat) (k v:AV),(putAt es i k v).length=es.length
 |[],_,_,_=>rfl
 |_::_,0,_,_=>rfl
 |_::es,i+1,k,v=>by simp[putAt,SV es i k v]
def rV(k v:Value)(e:MapEntry):MapEntry:={e with key:=k,val:=v}
theorem jY.put{ρ:aw}{val:AV}(hk:VR ρ key vk)(hv:VR ρ val vv):∀{es:List<|AV×AV} {l:List MapEntry} {n i:Nat},jY ρ es l n->jY ρ (putAt es i key val) (l.modify i<|rV vk vv) n
 |[],l,n,i,h=>by have h':l=[]:=h;subst h';cases i<;>rfl
 |p::es,l,n,0,h=>by obtain⟨e,l',rfl,a,b,c,d⟩:=h;exact⟨rV vk vv e,l',rfl,hk,hv,c,d⟩
 |p::es,l,n,i+1,h=>by obtain⟨e,l',rfl,a,b,c,d⟩:=h;exact⟨e,l'.modify i<|rV vk vv,rfl,a,b,c,d.put hk hv⟩
theorem dX.put{ρ:aw}{val:AV}(hk:VR ρ key vk)(hv:VR ρ val vv):∀{es:List<|AV×AV} {l:List MapEntry} {i:Nat},dX ρ es l->dX ρ (putAt es i key val) (l.modify i<|rV vk vv)
 |[],l,i,h=>by have h':l=[]:=h;subst h';cases i<;>rfl
 |p::es,l,0,h=>by obtain⟨e,l',rfl,a,b,d⟩:=h;exact⟨rV vk vv e,l',rfl,hk,hv,d⟩
 |p::es,l,i+1,h=>by obtain⟨e,l',rfl,a,b,d⟩:=h;exact⟨e,l'.modify i<|rV vk vv,rfl,a,b,d.put hk hv⟩
theorem jY.push{ρ:aw}{val:AV}(hk:VR ρ key e.key)(hv:VR ρ val e.val):∀{es:List<|AV×AV} {l:List MapEntry} {n:Nat},jY ρ es l n->e.born=n+es.length->jY ρ (es++[(key,val)]) (l++[e]) n
 |[],l,n,h,hb=>by have h':l=[]:=h;subst h';exact⟨e,[],rfl,hk,hv,hb,rfl⟩
 |p::es,l,n,h,hb=>by obtain⟨e2,l',rfl,a,b,c,d⟩:=h;exact⟨e2,l'++[e],rfl,a,b,c,d.push hk hv (by simp at hb;omega)⟩
theorem dX.push{ρ:aw}{val:AV}(hk:VR ρ key e.key)(hv:VR ρ val e.val):∀{es:List<|AV×AV} {l:List MapEntry},dX ρ es l->dX ρ (es++[(key,val)]) (l++[e])
 |[],l,h=>by have h':l=[]:=h;subst h';exact⟨e,[],rfl,hk,hv,rfl⟩
 |p::es,l,h=>by obtain⟨e2,l',rfl,a,b,d⟩:=h;exact⟨e2,l'++[e],rfl,a,b,d.push hk hv⟩
theorem lG.of(h:∀(i j:Nat) (p q:AV×AV),i≠j->es[i]? =some p->es[j]? =some q->sameKey p.1 q.1=some false):lG es:=by unfold lG;rw[List.pairwise_iff_getElem];intro i j hi hj mR;exact⟨h i j _ _ ak (List.getElem?_eq_getElem hi)<|List.getElem?_eq_getElem hj,h j i _ _ ak (List.getElem?_eq_getElem hj)<|List.getElem?_eq_getElem hi⟩
theorem lG.put(h:lG es){p:AV×AV}{val:AV}(hi:es[i]? =some p)(hk:sameKey key p.1=some true):lG<|putAt es i key val:=by
 refine lG.of fun j k a b hjk ha hb=>?_;rw[T1] at ha hb;by_cases e1:j=i
 ·have e2:k≠i:=by omega
  rw[if_pos e1,e1,hi] at ha;rw[if_neg e2] at hb;simp only[Option.map_some,Option.some.injEq] at ha;rw[←ha];show sameKey key b.1=some false;rw[Nj hk];exact h.at hi hb<|Ne.symm e2
 ·rw[if_neg e1] at ha;by_cases e2:k=i
  ·rw[if_pos e2,e2,hi] at hb;simp only[Option.map_some,Option.some.injEq] at hb;rw[←hb];show sameKey a.1 key=some false;rw[Nk,Nj hk];exact h.at hi ha<|Ne.symm e1
  ·rw[if_neg e2] at hb;exact h.at ha hb hjk
theorem lG.push(h:lG es){val:AV}(hk:∀p∈es,sameKey key p.1=some false):lG<|es++[(key,val)]:=by unfold lG at h ⊢;rw[List.pairwise_append];refine⟨h,by simp,fun a ha b hb=>?_⟩;simp only[List.mem_singleton] at hb;subst hb;exact⟨by rw[Nk];exact hk a ha,hk a ha⟩
theorem OD{α:Type}(f:α->α):∀{l:List α} {j:Nat} {e:α},l[j]? =some e->l.Perm (e::l.eraseIdx j)/\(l.modify j f).Perm (f e::l.eraseIdx j)
 |[],j,e,h=>by simp at h
 |a::l,0,e,h=>by simp at h;subst h;exact⟨List.Perm.refl _,List.Perm.refl _⟩
 |a::l,j+1,e,h=>by
  simp at h;obtain⟨p,q⟩:=OD f h;refine⟨?_,?_⟩
  ·exact(p.cons a).trans<|List.Perm.swap _ _ _
  ·rw[List.modify_succ_cons];exact(q.cons a).trans<|List.Perm.swap _ _ _
theorem acd{α:Type}(f:α->α){l l':List α}{j:Nat}{e:α}(hl:l.Perm l')(hi:l[i]? =some e)(hj:l'[j]? =some e):(l.modify i f).Perm<|l'.modify j f:=by obtain⟨p,q⟩:=OD f hi;obtain⟨p',q'⟩:=OD f hj;have:=((p.symm.trans hl).trans p').cons_inv;exact(q.trans<|this.cons _).trans q'.symm
theorem Nq(k v:Value):∀(l:List MapEntry) (i:Nat),(l.modify i<|rV k v).map (·.born)=l.map (·.born)
 |[],i=>by cases i<;>rfl
 |e::l,0=>rfl
 |e::l,i+1=>by rw[List.modify_succ_cons];simp[Nq k v l i]
theorem tW.modify(h:tW l bg)(k v:Value)(i:Nat):tW (l.modify i<|rV k v) bg:=by refine⟨by rw[Nq];exact h.1,fun e he=>?_⟩;have:e.born∈(l.modify i<|rV k v).map (·.born):=List.mem_map_of_mem he;rw[Nq] at this;obtain⟨e2,h2,h3⟩:=List.mem_map.1 this;rw[←h3];exact h.2 e2 h2
theorem tW.push(h:tW l bg)(he:e.born=bg):tW (l++[e])<|bg+1:=by
 refine⟨?_,fun e2 h2=>?_⟩
 ·rw[List.map_append,List.nodup_append];refine⟨h.1,by simp,fun a ha b hb=>?_⟩;simp only[List.map_cons,List.map_nil,List.mem_singleton] at hb;obtain⟨e2,h2,h3⟩:=List.mem_map.1 ha;have:=h.2 e2 h2;omega
 ·rcases List.mem_append.1 h2 with h2|h2
  ·have:=h.2 e2 h2;omega
  ·simp only[List.mem_singleton] at h2;subst h2;omega
section
variable {P:Program} {B:aI} {ρ:aw} {w:World} {s s1:AS} {x:AV} {SG:aO} {t:Tr AV} {ev:Operand->Value} {o:Oper}
theorem DK{w:World}{b:Nat}{o o':Obj}(hb:w.heap[b]? =some o):
 x8 b w {w with heap:=w.heap.setIfInBounds b o'}/\({w with heap:=w.heap.setIfInBounds b o'}:World).heap[b]? =some o':=by
 refine⟨⟨rfl,rfl,rfl,by simp,fun k hk=>?_⟩,?_⟩
 ·show(w.heap.setIfInBounds b o')[k]? =w.heap[k]?;rw[Array.getElem?_setIfInBounds_ne ak]
 ·show(w.heap.setIfInBounds b o')[b]? =some o';exact Array.getElem?_setIfInBounds_self_of_lt<|gV hb
theorem abt{m val:AV}{vm:Value}{u:Unit}(hm:VR ρ m vm)(qh:VR ρ key vk)(eL:VR ρ val vv)(fi:bF s)(r:Rel B ρ s.h w)(h:xY P ty m key val s= .ok u s1):
 s1.nx=s.nx/\∃w',(Instr.mapUpdate ty vm vk vv).run P w= .ok () w'/\Rel B ρ s1.h w'/\cP B w w':=by
 unfold xY at h;cases e1:P.underlying ty with
 |none=>simp only[e1] at h;cases h
 |some d=>
  cases d<;>simp only[e1] at h<;>first|(cases h;done)|skip
  rename_i k e;cases m<;>first|(cases h;done)|skip
  rename_i q;cases q with
  |none=>cases h
  |some n=>
   simp only[VR] at hm;obtain⟨b,N,hn,rfl⟩:=hm;obtain⟨ob,s2,h1,h2⟩:=M.aR h;obtain⟨hx,hg,hh,cJ⟩:=fY h1;have ht:n<top:=Nat.lt_of_lt_of_le hx fi.nx;obtain⟨o',hb,hO,hB⟩:=r.block ht hg hn;cases ob with
   |map es bg=>
    obtain⟨h3,h4⟩:=cY h2;obtain⟨f,h5,h6⟩:=bw h4;obtain⟨l,rfl,Ek,he⟩:=hO;obtain⟨kd,sW⟩:=NA h3;have wT:∀em,(Instr.checkKey em 10000 k vk).run P w= .ok () w:=fun em=>JB h3 qh;obtain⟨r',g1,g2⟩:=S7 (P:=P) (w:=w) sW qh he.eqs h5;cases f with
    |some p=>
     obtain⟨j,y⟩:=p;obtain⟨z,q,e0,rfl,_,_,q1,q2,q3,_,_⟩:=g2;rw[Nat.sub_zero] at q1 q2;obtain⟨dH,h7,h8⟩:=bw (show(aC es[j]? fun dH=>aF (sameBits dH.1 key) <| bN n<|some<|.map (putAt es j key val) bg) s2= .ok u s1 from h6);obtain⟨h9,gH⟩:=cY h8;rw[q1] at h7;cases h7;have Qh:=aaL h9 q3 qh 9999;obtain⟨_,_,_,i1,i2⟩:=jz gH;obtain⟨g3,g4⟩:=DK (o':=.map (l.modify j<|rV vk vv) bg) hb;refine⟨by rw[i2,cJ],_,?_,?_,g3.below<|hB rfl⟩
     ·have hl:l[j]? =some e0:=by simpa using q2
      simp only[Instr.mapUpdate,Sem.run_bind,dh e1,Result.andThen_ok,MapKept.run_getObj_map hb,wT,g1,hl,Option.map_some,Option.getD_some,T0 Qh,MapKept.run_setObj_map _ hb];rfl
     ·rw[i1,hh];refine r.put ht hg rfl rfl hn rfl g3 g4 ⟨_,rfl,by rw[SV];exact Ek,?_⟩;rw[Array.toList_modify];exact he.put qh eL
    |none=>
     have AW:r'=none:=g2;subst AW;obtain⟨_,_,_,i1,i2⟩:=jz (show bN n (some<|.map (es++[(key,val)])<|bg+1) s2= .ok u s1 from h6);obtain⟨g3,g4⟩:=DK (o':=.map (l.push {key:=vk,val:=vv,born:=bg})<|bg+1) hb;refine⟨by rw[i2,cJ],_,?_,?_,g3.below<|hB rfl⟩
     ·simp only[Instr.mapUpdate,Sem.run_bind,dh e1,Result.andThen_ok,MapKept.run_getObj_map hb,wT,g1,MapKept.run_setObj_map _ hb]
     ·rw[i1,hh];refine r.put ht hg rfl rfl hn rfl g3 g4 ⟨_,rfl,by simp[Ek],?_⟩;rw[Array.toList_push];exact he.push qh eL (by simp[Ek])
   |lH es=>
    obtain⟨h3,h4⟩:=cY h2;obtain⟨f,h5,h6⟩:=bw h4;obtain⟨hp,Y9⟩:=and_true.1 h3;obtain⟨l,bg,rfl,ka,AX,l',hl,he⟩:=hO;obtain⟨kd,sW⟩:=NA Y9;have wT:∀em,(Instr.checkKey em 10000 k vk).run P w= .ok () w:=fun em=>JB Y9 qh;unfold findKey at h5;have hz:uS _=true:=WL h5;simp only[hz] at h5;simp only[hp] at h5;obtain⟨f1,f2⟩:=S9 sW hp qh ka he hl h5;cases f with
    |some p=>
     obtain⟨j,y⟩:=p;obtain⟨j',e0,a1,a2,a3,a4,q,a5,a6⟩:=f2 j y rfl;obtain⟨_,_,_,i1,i2⟩:=jz (show bN n (some<|.lH<|putAt es j key val) s2= .ok u s1 from h6);obtain⟨g3,g4⟩:=DK (o':=.map (l.modify j'<|rV vk vv) bg) hb;have hq:VR ρ q.1 e0.key:=by obtain⟨q',b1,b2,_⟩:=he.get a3;rw[a5] at b1;cases b1;exact b2
     have Qh:Instr.sameBits 10000 e0.key vk=true:=Nz (by rw[Nk];exact a6) hq qh 10000;refine⟨by rw[i2,cJ],_,?_,?_,g3.below<|hB rfl⟩
     ·have yX:l[j']? =some e0:=by simpa using a2
      simp only[Instr.mapUpdate,Sem.run_bind,dh e1,Result.andThen_ok,MapKept.run_getObj_map hb,wT,MapKept.run_findKey sW a1,yX,Option.map_some,Option.getD_some,T0 Qh,MapKept.run_setObj_map _ hb];rfl
     ·rw[i1,hh];refine r.put ht hg rfl rfl hn rfl g3 g4 ⟨_,_,rfl,ka.put a5 a6,?_,l'.modify j<|rV vk vv,?_,he.put qh eL⟩
      ·rw[Array.toList_modify];exact AX.modify _ _ _
      ·rw[Array.toList_modify];exact acd _ hl a2 a3
    |none=>
     obtain⟨_,_,_,i1,i2⟩:=jz (show bN n (some<|.lH<|es++[(key,val)]) s2= .ok u s1 from h6);obtain⟨g3,g4⟩:=DK (o':=.map (l.push {key:=vk,val:=vv,born:=bg})<|bg+1) hb;refine⟨by rw[i2,cJ],_,?_,?_,g3.below<|hB rfl⟩
     ·simp only[Instr.mapUpdate,Sem.run_bind,dh e1,Result.andThen_ok,MapKept.run_getObj_map hb,wT,MapKept.run_findKey sW<|f1 rfl,MapKept.run_setObj_map _ hb]
     ·rw[i1,hh];refine r.put ht hg rfl rfl hn rfl g3 g4 ⟨_,_,rfl,ka.push<|M9 h5,?_,l'++[{key:=vk,val:=vv,born:=bg}],?_,dX.push (e:={key:=vk,val:=vv,born:=bg}) qh eL he⟩
      ·rw[Array.toList_push];exact AX.push rfl
      ·rw[Array.toList_push];exact hl.append_right _
   |_=>cases h2
theorem Ta{a b c:Operand}(he:∀x v,aK t x=some v->VR ρ v (ev x))(fi:bF s)(r:Rel B ρ s.h w)(h:qK P ty a b c SG t s= .ok x s1)(ho:o.op= .mapUpdate ty a b c\/o.op= .insert ty a b c):gh P B ρ s s1 w x<|execOp ev o:=by unfold qK at h;obtain⟨m,h1,h2⟩:=bw h;obtain⟨k,h3,h4⟩:=bw h2;obtain⟨v,h5,h6⟩:=bw h4;obtain⟨u,s2,h7,h8⟩:=M.aR h6;obtain⟨rfl,rfl⟩:=bI h8;obtain⟨a1,w',a2,a3,a4⟩:=abt (P:=P) (he a m h1) (he b k h3) (he c v h5) fi r h7;refine⟨ρ,w',.skip,by rw[a1];exact Ext.refl _ _ _,?_,rfl,a3,a4⟩;rcases ho with ho|ho<;>simp[execOp,ho,a2]
end
end Go.Rn
namespace Go.Rn
open Go.RowKit
variable {y:Operand} {ty:TypeId} {es:List<|AV×AV} {b:Nat}
section
variable {P:Program} {B:aI} {ρ:aw} {w:World} {s s1:AS} {x:AV} {SG:aO} {t:Tr AV} {ev:Operand->Value} {o:Oper}
theorem jY.born:∀{es:List<|AV×AV} {l:List MapEntry} {n:Nat},jY ρ es l n->l.map (·.born)=List.range' n es.length
 |[],l,n,h=>by have h':l=[]:=h;subst h';rfl
 |p::es,l,n,h=>by obtain⟨e,l',rfl,a,b,c,d⟩:=h;rw[List.map_cons,c,d.born,List.length_cons,List.range'_succ]
theorem jY.WM{l:List MapEntry}(h:jY ρ es l 0):tW l es.length:=by have hb:=h.born;refine⟨by rw[hb];exact List.nodup_range',fun e he=>?_⟩;have:e.born∈l.map (·.born):=List.mem_map_of_mem he;rw[hb,List.mem_range'_1] at this;omega
theorem Rel.ajL{h:Tr ae}(r:Rel B ρ h w){n m:Nat}{p:ae}{N:Nat}{ex:Bool}{l:Array MapEntry}{bg:Nat}(Za:n<top)(Ix:ρ n=none)(pz:m<top)(hg:h.get m=some p)(hp:p.plain=true)(cH:p.dv=false)(hm:ρ m=some (b,N))(hb:w.heap[b]? =some (.map l bg))(AX:tW l.toList bg)(h1:ex=true->bg=es.length/\jY ρ es l.toList 0)(h2:ex=false->lG es/\wN ρ es l.toList)(h3:wN ρ es l.toList):
 Rel B (eR ρ n (w.heap.size,1)) ((h.put m<|some .jQ).put n<|some<|.iter m es ex es none) {w with heap:=w.heap.push<|.mapIter (some b) bg #[] bg}:=by
 have hl:ρ.le<|eR ρ n (w.heap.size,1):=oP Ix;have sQ:m≠n:=by intro e;subst e;rw[hm] at Ix;cases Ix
 have mr:h.get n=none:=by
  cases e:h.get n with
  |none=>rfl
  |some p=>obtain⟨_,_,_,h1,_⟩:=r.is n p Za e;rw[Ix] at h1;cases h1
 have g:∀k,k<top->((h.put m<|some .jQ).put n<|some<|.iter m es ex es none).get k=if k=n then some (.iter m es ex es none) else if k=m then some .jQ else h.get k:=by intro k hk;rw[Tr.du _ _ _ _ Za hk,Tr.du _ _ _ _ pz hk]
 have hw:∀k,k<w.heap.size->(w.heap.push<|.mapIter (some b) bg #[] bg)[k]? =w.heap[k]? :=(gX.alloc w _).block;obtain⟨_,_,_,hB⟩:=r.block pz hg hm;have size:∀k q,k<top->h.get k=some q->∀b1 N1,ρ k=some (b1,N1)->b1<w.heap.size:=by intro k q hk hq b1 N1 e;obtain⟨b2,N2,o2,e1,e2,_⟩:=r.is k q hk hq;rw[e] at e1;cases e1;exact gV e2
 have dH:∀k q,k<top->(if k=m then some ae.jQ else h.get k)=some q->∃q',h.get k=some q'/\(q.dv=false->q'.dv=false):=by
  intro k q hk hq;by_cases e:k=m
  ·subst e;exact⟨p,hg,fun _=>cH⟩
  ·rw[if_neg e] at hq;exact⟨q,hq,id⟩
 refine⟨?_,?_,?_,fun k hk=>r.size k<|Nat.le_trans jJ hk,?_,r.fz.of hl (fun b1 uV _=>hw b1 uV) (fun b1 uV hn j q M hj hq hU e=>by
  rw[g j hj] at hq;by_cases a:j=n
  ·subst a;rw[iQ] at e;cases e;exact absurd uV (Nat.lt_irrefl _)
  ·rw[if_neg a] at hq;rw[gM ρ _ a] at e;obtain⟨q',e1,e2⟩:=dH j q hj hq;exact hn j q' M hj e1 (e2 hU) e),r.tk.of hl (fun j q hj hq yC=>by
  rw[g j hj] at hq;by_cases a:j=n
  ·rw[if_pos a] at hq;cases hq;cases yC
  ·rw[if_neg a] at hq;by_cases a2:j=m
   ·rw[if_pos a2] at hq;cases hq;cases yC
   ·rw[if_neg a2] at hq;exact hq) jJ (fun b1 uV _=>hw b1 uV) (fun b1 uV hn j q M hj hq hU e=>by
  rw[g j hj] at hq;by_cases a:j=n
  ·subst a;rw[iQ] at e;cases e;exact absurd uV (Nat.lt_irrefl _)
  ·rw[if_neg a] at hq;rw[gM ρ _ a] at e;obtain⟨q',e1,e2⟩:=dH j q hj hq;exact hn j q' M hj e1 (e2 hU) e) (fun j x sh _ _ e=>by rw[gM ρ _ (by have:=gg j x sh;omega)];exact e)⟩
 ·intro k q hk hq;rw[g k hk] at hq;by_cases e:k=n
  ·subst e;rw[if_pos rfl] at hq;cases hq;refine⟨w.heap.size,1,.mapIter (some b) bg #[] bg,iQ _ _ _,by simp,?_,fun _=>r.size _<|Nat.le_refl _⟩;exact⟨b,N,bg, #[],hl _ _ hm,rfl⟩
  ·rw[if_neg e] at hq;by_cases e2:k=m
   ·subst e2;rw[if_pos rfl] at hq;cases hq;exact⟨b,N,_,hl _ _ hm,(hw b<|gV hb).trans hb,⟨l,bg,rfl⟩,fun _=>hB cH⟩
   ·rw[if_neg e2] at hq;obtain⟨b1,N1,o1,c1,c2,c3,c4⟩:=r.is k q hk hq;exact⟨b1,N1,o1,hl _ _ c1,(hw b1<|gV c2).trans c2,c3.mono hl,c4⟩
 ·intro k j q q' b1 N1 M1 hk hj hq dS da e1 e2;rw[g k hk] at hq;rw[g j hj] at dS;by_cases a1:k=n
  ·by_cases a2:j=n
   ·omega
   ·rw[if_neg a2] at dS;subst a1;rw[iQ] at e1;cases e1;rw[gM ρ _ a2] at e2;obtain⟨q2,Iy,Zb⟩:=dH j q' hj dS;exact absurd (size j q2 hj Iy _ _ e2)<|Nat.lt_irrefl _
  ·rw[if_neg a1] at hq;rw[gM ρ _ a1] at e1;obtain⟨q1,Mo,hr1⟩:=dH k q hk hq;by_cases a2:j=n
   ·subst a2;rw[iQ] at e2;cases e2;exact absurd (size k q1 hk Mo _ _ e1)<|Nat.lt_irrefl _
   ·rw[if_neg a2] at dS;rw[gM ρ _ a2] at e2;obtain⟨q2,Iy,Zb⟩:=dH j q' hj dS;exact r.one k j q1 q2 b1 N1 M1 hk hj Mo Iy (da.imp hr1 Zb) e1 e2
 ·intro i m' hJ iW left cur hi hq;rw[g i hi] at hq;by_cases e:i=n
  ·subst e;rw[if_pos rfl] at hq;cases hq;refine⟨pz,by rw[g m pz,if_neg sQ,if_pos rfl],?_⟩;refine⟨w.heap.size,1,b,N,l,bg, #[],iQ _ _ _,hl _ _ hm,by simp,(hw b<|gV hb).trans hb,AX,fun e=>⟨(h1 e).1,(h1 e).2.mono hl⟩,fun e=>⟨(h2 e).1,(h2 e).2.mono hl⟩,?_,rfl⟩;have:(l.toList.filter fun e=> !(#[]:Array Nat).contains e.born)=l.toList:=List.filter_eq_self.2 jJ;rw[this];exact h3.mono hl
  ·rw[if_neg e] at hq;by_cases e2:i=m
   ·subst e2;rw[if_pos rfl] at hq;cases hq
   ·rw[if_neg e2] at hq;obtain⟨eF,fx,b1,N1,bm,M,l1,agq,seen,c1,c2,c3,c4,c5⟩:=r.iter i m' hJ iW left cur hi hq;have d1:m'≠n:=by intro e3;subst e3;rw[mr] at fx;cases fx
    refine⟨eF,?_,nu.mono hl ⟨b1,N1,bm,M,l1,agq,seen,c1,c2,(hw b1<|gV c3).trans c3,(hw bm<|gV c4).trans c4,c5⟩⟩;rw[g m' eF,if_neg d1];by_cases d2:m'=m
    ·rw[if_pos d2]
    ·rw[if_neg d2];exact fx
 ·have new:∀i,i<top->∀AY AZ Ae Az,(if i=m then some ae.jQ else h.get i)≠some (.iter m AY AZ Ae Az):=by
   intro i hi AY AZ Ae Az hq;by_cases e:i=m
   ·rw[if_pos e] at hq;cases hq
   ·rw[if_neg e] at hq;obtain⟨_,fx,_⟩:=r.iter i m _ _ _ _ hi hq;rw[hg] at fx;cases fx;simp[ae.plain] at hp
  intro i j m' AY AZ Ae Az Mp Mq Lm LN hi hj q1 q2;rw[g i hi] at q1;rw[g j hj] at q2;by_cases e:i=n
  ·by_cases e2:j=n
   ·omega
   ·rw[if_pos e] at q1;rw[if_neg e2] at q2;cases q1;exact absurd q2<|new j hj _ _ _ _
  ·rw[if_neg e] at q1;by_cases e2:j=n
   ·rw[if_pos e2] at q2;cases q2;exact absurd q1<|new i hi _ _ _ _
   ·rw[if_neg e2] at q2;by_cases e3:i=m
    ·rw[if_pos e3] at q1;cases q1
    ·rw[if_neg e3] at q1;by_cases e4:j=m
     ·rw[if_pos e4] at q2;cases q2
     ·rw[if_neg e4] at q2;exact r.lone i j m' _ _ _ _ _ _ _ _ hi hj q1 q2
theorem aa0{m:Option Nat}{c c':Nat}{seen:Array Nat}(hb:w.heap[b]? =some (.mapIter m c seen c')):(getObj b).run P w= .ok (.mapIter m c seen c') w:=by simp[getObj,Sem.run,hb]
theorem aa1{a:AV}{va:Value}(ha:VR ρ a va)(fi:bF s)(r:Rel B ρ s.h w)(hf:dK s.nx s1.nx ρ)(h:BK P ty a s= .ok x s1):jS P B ρ s s1 w x<|Instr.range ty va:=by
 unfold BK at h;cases e1:P.underlying ty with
 |none=>simp only[e1] at h;cases h
 |some d=>
  cases d<;>simp only[e1] at h<;>first|(cases h;done)|skip
  cases a<;>first|(cases h;done)|skip
  rename_i q;cases q with
  |none=>cases h
  |some m=>
   simp only[VR] at ha;obtain⟨b,N,hm,rfl⟩:=ha;obtain⟨ob,s2,h1,h2⟩:=M.aR h;obtain⟨hx,hg,hh,cJ⟩:=fY h1;have pz:m<top:=Nat.lt_of_lt_of_le hx fi.nx;obtain⟨o',hb,hO,hB⟩:=r.block pz hg hm;have fin:∀(es:List<|AV×AV) (ex:Bool) (l:Array MapEntry) (bg:Nat),ob.plain=true->ob.dv=false->w.heap[b]? =some (.map l bg)->tW l.toList bg->(ex=true->bg=es.length/\jY ρ es l.toList 0)->(ex=false->lG es/\wN ρ es l.toList)->wN ρ es l.toList->
    ((bN m<|some .jQ).bind fun _=>(gC<|.iter m es ex es none).bind fun n=>M.pure<|.ptr<|some (n,0)) s2= .ok x s1->jS P B ρ s s1 w x (Instr.range ty<|.map<|some b):=by
    intro es ex l bg hp cH iO AX p1 p2 p3 h3;obtain⟨u,s3,h4,h5⟩:=M.aR h3;obtain⟨n,s4,h6,h7⟩:=M.aR h5;obtain⟨rfl,rfl⟩:=bI h7;obtain⟨_,_,_,i1,i2⟩:=jz h4;obtain⟨ht,rfl,rfl⟩:=vA h6;have e:s3.nx=s.nx:=i2.trans cJ;have ji:ρ s3.nx=none:=hf s3.nx ak (Nat.lt_succ_self _) ak;refine⟨eR ρ s3.nx (w.heap.size,1),_,.pointer<|some ⟨w.heap.size,0,none⟩,?_,?_,?_,?_,(gX.alloc w<|.mapIter (some b) bg #[] bg).below r.size⟩
    ·rw[←e];exact Ext.mP ji
    ·simp only[Instr.range,Sem.run_bind,dh e1,Result.andThen_ok,MapKept.run_getObj_map iO,Sem.run_pure,newObj,Sem.run]
    ·simp only[VR];exact⟨_,_,iQ _ _ _,rfl⟩
    ·show Rel B _ (s3.h.put s3.nx<|some<|.iter m es ex es none) _;rw[i1,hh];exact r.ajL ht ji pz hg hp cH hm iO AX p1 p2 p3
   cases ob with
   |map es bg=>obtain⟨l,rfl,Ek,he⟩:=hO;exact fin es true l bg rfl rfl hb (by rw[Ek];exact he.WM) (fun _=>⟨Ek,he⟩) (fun e=>by cases e) ⟨_,List.Perm.refl _,he.eqs⟩ h2
   |lH es=>obtain⟨l,bg,rfl,ka,AX,he⟩:=hO;exact fin es false l bg rfl rfl hb AX (fun e=>by cases e) (fun _=>⟨ka,he⟩) he h2
   |_=>cases h2
theorem abu(he:∀x v,aK t x=some v->VR ρ v (ev x))(fi:bF s)(r:Rel B ρ s.h w)(hf:dK s.nx s1.nx ρ)(h:B1 P ty y SG t s= .ok x s1)(ho:o.op= .range ty y):gh P B ρ s s1 w x<|execOp ev o:=by unfold B1 at h;obtain⟨a,h1,h2⟩:=bw h;have:=(aa1 (P:=P) (he y a h1) fi r hf h2).op;simpa only[execOp,ho] using this
theorem find_born{e:MapEntry}:∀{l:List MapEntry},(l.map (·.born)).Nodup->e∈l->l.find? (·.born == e.born)=some e
 |[],_,h=>by cases h
 |a::l,hn,h=>by
  rw[List.map_cons,List.nodup_cons] at hn;rcases List.mem_cons.1 h with rfl|h
  ·simp
  ·have:(a.born == e.born)=false:=by rw[beq_eq_false_iff_ne];intro q;exact hn.1 (by rw[q];exact List.mem_map_of_mem h)
   rw[List.find?_cons,this];exact find_born hn.2 h
theorem abv(he:∀x v,aK t x=some v->VR ρ v (ev x))(fi:bF s)(r:Rel B ρ s.h w)(h:B2 y SG t s= .ok x s1)(ho:o.op= .entry y):gh P B ρ s s1 w x<|execOp ev o:=by
 unfold B2 at h;obtain⟨a,h1,h2⟩:=bw h;have ha:=he y a h1;unfold D8 at h2;split at h2
 ·rename_i n;obtain⟨ob,s2,h3,h4⟩:=M.aR h2;obtain⟨hx,hg,hh,cJ⟩:=fY h3;have ht:n<top:=Nat.lt_of_lt_of_le hx fi.nx;split at h4
  ·rename_i m es ex left k v;obtain⟨rfl,rfl⟩:=bI h4;obtain⟨_,_,b,N,bm,M,l,bg,seen,c1,c2,c3,c4,c5,_,_,_,c9⟩:=r.iter n m es ex left _ ht hg;obtain⟨e,d1,d2,d3,d4⟩:=c9;simp only[VR] at ha;obtain⟨b',N',q1,q2⟩:=ha;rw[c1] at q1;cases q1;refine⟨ρ,w,.value<|.tuple #[e.key,e.val],by rw[cJ];exact Ext.refl _ _ _,?_,?_,by rw[hh];exact r,cP.refl _ _⟩
   ·have hf:l.find? (·.born == e.born)=some e:=by rw[←Array.find?_toList];exact find_born c5.1 d1
    simp only[execOp,ho,q2,Instr.entry,Sem.run_bind,aa0 c3,Result.andThen_ok,d2,MapKept.run_getObj_map c4,bne_self_eq_false,Bool.false_eq_true,if_false,hf,Sem.run_pure]
   ·simp only[VR,az];exact⟨_,rfl,_,_,rfl,d3,_,_,rfl,d4,rfl⟩
  ·cases h4
 ·cases h2
theorem aaM(he:∀x v,aK t x=some v->VR ρ v (ev x))(fi:bF s)(r:Rel B ρ s.h w)(h:DW y SG t s= .ok x s1)(ho:o.op= .next y true):gh P B ρ s s1 w x<|execOp ev o:=by have h':(R.bad:R AV)= .ok x s1:=h;cases h'
end
end Go.Rn
namespace Go.Rn
open Go.RowKit
variable {y:Operand} {ts:Array TypeId} {args:Array Operand}
def agr(P:Program)(l:Nat)(f:FuncId)(tmps:Array Value)(assign body:Code)(w:World)(R:Value->World->Prop):Prop:=∀(c:Frame) (cs:List Frame),∃v w',R v w'/\Steps P (lone (Frame.round l f tmps assign body .normal) (c::cs) w) (lone (c.finish v) cs w')
def jo(P:Program)(r:Result Next)(R:Value->World->Prop):Prop:=
 match r with
 | .ok (.value v) w=>R v w
 | .ok .skip w=>R undef w
 | .ok (.enter f args) w=>Calls P f args w fun e w'=>∃v,e= .returned v/\R v w'
 | .ok (.round l f tmps assign body) w=>agr P l f tmps assign body w R
 |_=>False
def ki(B:aI)(ρ:aw)(s s1:AS)(w:World)(x:AV):Value->World->Prop:=fun v w'=>∃σ,Ext s.nx s1.nx ρ σ/\VR σ x v/\Rel B σ s1.h w'/\cP B w w'
structure fR (P:Program) (B:aI) (SG:aO):Prop where
 fn:∀(f:FuncId) (args:List AV) (x:AV) (s s1:AS) (ρ:aw) (w:World) (vs:Array Value),bF s->Rel B ρ s.h w->gk ρ->dK s.nx s1.nx ρ->SG (.fn f) args s= .ok x s1->az ρ args vs.toList->
  jo P ((callFunc f vs).run P w) (ki B ρ s s1 w x)
 round:∀(l b N:Nat) (args:List AV) (x:AV) (s s1:AS) (ρ:aw) (w:World) (vs:Array Value),bF s->Rel B ρ s.h w->gk ρ->dK s.nx s1.nx ρ->SG (.round l) args s= .ok x s1->az ρ args vs.toList->
  ρ l=some (b,N)->jo P ((Instr.yield b vs).run P w) (ki B ρ s s1 w x)
 row:B3 B SG
section
variable {P:Program} {B:aI} {ρ:aw} {w:World} {s s1:AS} {x:AV} {SG:aO} {t:Tr AV} {ev:Operand->Value} {o:Oper}
theorem gh.back{c:Sem Next}(h:gh P B ρ s s1 w x c):jo P (c.run P w)<|ki B ρ s s1 w x:=by
 obtain⟨σ,w',nv,a,b,d,e,f⟩:=h;rw[b];cases nv<;>first|(cases d;done)|skip
 ·exact⟨σ,a,d,e,f⟩
 ·exact⟨σ,a,by rw[d];exact VR.undef σ,e,f⟩
theorem VR.UK{f:Fn}{a c:List AV}{v:Value}(h:VR ρ (.func f a c) v):VB f=true/\∃p q,v= .func f p q/\az ρ a p.toList/\az ρ c q.toList:=by simpa only[VR] using h
theorem ace(hc:fR P B SG)(he:∀x v,aK t x=some v->VR ρ v (ev x))(hg:gk ρ)(fi:bF s)(r:Rel B ρ s.h w)(hf:dK s.nx s1.nx ρ)(h:uv y args.toList SG t s= .ok x s1)(ho:o.op= .call ⟨.value y,args,ts⟩):jo P ((execOp ev o).run P w)<|ki B ρ s s1 w x:=by
 unfold uv at h;obtain⟨l,h1,h2⟩:=bw h;obtain⟨f,h3,h4⟩:=bw h2;have hl:=GN he h1;have yY:=he y f h3;unfold ny at h4;split at h4
 ·rename_i g first captured
  obtain⟨_,p,q,e,hp,hq⟩:=yY.UK;have Qi:az ρ (first++l++captured) (p++args.map ev++q).toList:=by rw[Array.toList_append,Array.toList_append];exact(hp.append<|by simpa using hl).append hq
  have:=hc.fn g _ x s s1 ρ w _ fi r hg hf h4 Qi;simp only[execOp,ho,resolve,Deferred.ofValue,e,Sem.run_bind,Sem.run_pure,Result.andThen_ok,invoke];exact this
 ·rename_i n;have jK:=yY;simp only[VR] at jK;obtain⟨b,N,hn,e⟩:=jK;have:=hc.round n b N _ x s s1 ρ w (args.map ev) fi r hg hf h4 (by simpa using hl) hn;simp only[execOp,ho,resolve,Deferred.ofValue,e,Sem.run_bind,Sem.run_pure,Result.andThen_ok,invoke];simpa using this
 ·cases h4
theorem aa2{name:String}(hc:fR P B SG)(he:∀x v,aK t x=some v->VR ρ v (ev x))(hg:gk ρ)(fi:bF s)(r:Rel B ρ s.h w)(hf:dK s.nx s1.nx ρ)(h:O8 P y name args.toList SG t s= .ok x s1)(ho:o.op= .call ⟨.invoke y name,args,ts⟩):jo P ((execOp ev o).run P w)<|ki B ρ s s1 w x:=by have h':(R.bad:R AV)= .ok x s1:=h;cases h'
end
end Go.Rn
namespace Go.Rn
open Go.RowKit
section
variable {P:Program} {B:aI} {ρ:aw} {w:World} {s s1:AS} {x:AV} {SG:aO} {t:Tr AV} {o:Oper}
theorem ags{a:Act}{nt:Nat}(hc:fR P B SG)(hl:∀t a,SF<|SG t a)(ht:TR ρ nt t a.tmps)(hg:gk ρ)(fi:bF s)(r:Rel B ρ s.h w)(hf:dK s.nx s1.nx ρ)(h:(dP P o.op).val SG t s= .ok x s1):
 (∀c,o.op≠ .defer c)/\jo P ((execOp a.eval o).run P w) (ki B ρ s s1 w x):=by
 have he:∀x v,aK t x=some v->VR ρ v (a.eval x):=fun x v=>D9 ht hg;cases eU:o.op
 all_goals rw[eU] at h
 case move y=>exact⟨by simp,(TV (SG:=SG) he r h<|.inl eU).back⟩
 case assign y=>exact⟨by simp,(TV (SG:=SG) he r h<|.inr eU).back⟩
 case pick c p q=>exact⟨by simp,(ab7 (SG:=SG) he r h eU).back⟩
 case alloc e=>exact⟨by simp,(abf (SG:=SG) (t:=t) r hf h eU).back⟩
 case box e y=>exact⟨by simp,(adh (SG:=SG) he r hf h eU).back⟩
 case build ty parts=>exact⟨by simp,(abi (SG:=SG) he r h eU).back⟩
 case buildSlice ty len parts=>exact⟨by simp,(aam (SG:=SG) he r hf h eU).back⟩
 case load ty y=>exact⟨by simp,(ab8 (SG:=SG) hc.row he fi r h eU).back⟩
 case store ty y z=>exact⟨by simp,(abg (SG:=SG) he fi r h eU).back⟩
 case nilCheck y=>exact⟨by simp,(aau (SG:=SG) he r h eU).back⟩
 case binOp op ty y z u=>exact⟨by simp,(adi (SG:=SG) he r h eU).back⟩
 case unOp op ty y=>exact⟨by simp,(aeG (SG:=SG) he r h eU).back⟩
 case convert src dst y=>exact⟨by simp,(aaF (SG:=SG) he fi r h eU).back⟩
 case makeInterface ty y=>exact⟨by simp,(aak (SG:=SG) he r h eU).back⟩
 case makeFunc fn first captured=>exact⟨by simp,(aav (SG:=SG) he r h eU).back⟩
 case makeMap ty y=>exact⟨by simp,(aaG (SG:=SG) he r hf h eU).back⟩
 case makeSlice ty l c=>exact⟨by simp,(aar (SG:=SG) he r hf h eU).back⟩
 case slice ty y lo hi mx=>exact⟨by simp,(abn (SG:=SG) he r h eU).back⟩
 case fieldAddr ty y f=>exact⟨by simp,(aap (SG:=SG) he r h eU).back⟩
 case field ty y f=>exact⟨by simp,(abl (SG:=SG) he r h eU).back⟩
 case indexAddr ty y z=>exact⟨by simp,(aaq (SG:=SG) he r h eU).back⟩
 case index ty y z=>exact⟨by simp,(abm (SG:=SG) he r h eU).back⟩
 case lookup ty y z ok=>exact⟨by simp,(aaZ (SG:=SG) he fi r h eU).back⟩
 case mapUpdate ty m k y=>exact⟨by simp,(Ta (SG:=SG) he fi r h<|.inl eU).back⟩
 case insert ty m k y=>exact⟨by simp,(Ta (SG:=SG) he fi r h<|.inr eU).back⟩
 case typeAssert y xt asserted ok=>exact⟨by simp,(aaV (SG:=SG) he r h eU).back⟩
 case range ty y=>exact⟨by simp,(abu (SG:=SG) he fi r hf h eU).back⟩
 case entry y=>exact⟨by simp,(abv (SG:=SG) he fi r h eU).back⟩
 case next y Ru=>
  cases Ru with
  |true=>exact⟨by simp,(aaM (SG:=SG) he fi r h eU).back⟩
  |false=>exact absurd (show(fail:M AV) s= .ok x s1 from h) (by intro e;cases e)
 case extract y i=>exact⟨by simp,(aaH (SG:=SG) he r h eU).back⟩
 case call c=>
  obtain⟨callee,args,ts⟩:=c;cases callee with
  |builtin b=>exact⟨by simp,(aaK (SG:=SG) hc.row hl he fi r hf h eU).back⟩
  |value f=>exact⟨by simp,ace hc he hg fi r hf h eU⟩
  |invoke recv name=>exact⟨by simp,aa2 hc he hg fi r hf h eU⟩
 all_goals (exact absurd (show(fail:M AV) s= .ok x s1 from h) (by intro e;cases e))
end
end Go.Rn
namespace Go.Rn
open Go.RowKit
variable {nt i:Nat} {a:Act} {ops:Array Oper} {t1:Tr AV} {dst:Option Tmp}
section
variable {P:Program} {B:aI} {ρ:aw} {w:World} {s s1:AS} {x:AV} {SG:aO} {t:Tr AV} {o:Oper}
theorem T2{f:AV}{args:List AV}{vf:Value}{vs:Array Value}(hc:fR P B SG)(hg:gk ρ)(fi:bF s)(r:Rel B ρ s.h w)(hf:dK s.nx s1.nx ρ)(yY:VR ρ f vf)(hl:az ρ args vs.toList)(h4:ny SG f args s= .ok x s1):jo P ((do let d ←Deferred.ofValue vf vs;invoke d.target d.args:Sem Next).run P w)<|ki B ρ s s1 w x:=by
 unfold ny at h4;split at h4
 ·rename_i g first captured
  obtain⟨_,p,q,e,hp,hq⟩:=yY.UK;have Qi:az ρ (first++args++captured) (p++vs++q).toList:=by rw[Array.toList_append,Array.toList_append];exact(hp.append hl).append hq
  have:=hc.fn g _ x s s1 ρ w _ fi r hg hf h4 Qi;simp only[Deferred.ofValue,e,Sem.run_bind,Sem.run_pure,Result.andThen_ok,invoke];exact this
 ·rename_i n;have jK:=yY;simp only[VR] at jK;obtain⟨b,N,hn,e⟩:=jK;have:=hc.round n b N _ x s s1 ρ w vs fi r hg hf h4 hl hn;simp only[Deferred.ofValue,e,Sem.run_bind,Sem.run_pure,Result.andThen_ok,invoke];simpa using this
 ·cases h4
theorem To{R:Value->World->Prop}(ho:ops[i]? =some o)(hw:Region.wanted o (yielded ops a.tmps)=true)(hd:∀c,o.op≠ .defer c)(h:jo P ((execOp a.eval o).run P w) R)(b:Frame)(k:List Item)(cs:List Frame)(rest:List Nat):
 ∃v w',R v w'/\Steps P (lone (b.atR a<|.inRegion ops (i::rest)::k) cs w) (lone (b.atR (a.put o.dst v)<|.inRegion ops rest::k) cs w'):=by
 have hg:=stepGR_op (P:=P) (b:=b) (k:=k) (cs:=cs) (w:=w) (rest:=rest) ho hw;rw[Oper.semAt_eq _ _ _ hd] at hg;have qi:∀v,(b.atR a<|.inRegion ops (i::rest)::k).finish v=b.atR (a.put o.dst v) (.inRegion ops rest::k):=by intro v;rw[Frame.finish_atR,ho];rfl
 generalize hr:(execOp a.eval o).run P w=res at h;unfold jo at h;split at h
 ·rename_i v w';refine⟨v,w',h,.one<|step_lone_go ?_⟩;rw[hg, ←qi];simp[stepG.apply,hr]
 ·rename_i w';refine⟨undef,w',h,.one<|step_lone_go ?_⟩;rw[hg, ←qi];simp[stepG.apply,hr]
 ·rename_i f args w';obtain⟨e,nJ,fr,⟨v,rfl,hR⟩,B4,ch,PG⟩:=h<|b.atR a (.inRegion ops (i::rest)::k)::cs;have B5:step P (lone (b.atR a<|.inRegion ops (i::rest)::k) cs w)= .next (lone (Frame.enter P f args .normal) (b.atR a (.inRegion ops (i::rest)::k)::cs) w'):=step_lone_go (by rw[hg];simp[stepG.apply,hr,Frame.atR])
  refine⟨v,nJ,hR,.head B5<|Steps.trans B4<|.one ?_⟩;rw[←qi];exact step_leave_returned PG
 ·rename_i l f tmps assign body w';obtain⟨v,nJ,hR,B4⟩:=h (b.atR a<|.inRegion ops (i::rest)::k) cs;have B5:step P (lone (b.atR a<|.inRegion ops (i::rest)::k) cs w)= .next (lone (Frame.round l f tmps assign body .normal) (b.atR a (.inRegion ops (i::rest)::k)::cs) w'):=step_lone_go (by rw[hg];simp[stepG.apply,hr,Frame.atR])
  refine⟨v,nJ,hR,.head B5 ?_⟩;rw[←qi];exact B4
 ·cases h
theorem aa3(ht:TR ρ nt t a.tmps)(j:Nat)(hk:tX ops t j=true):yielded ops a.tmps j=GM ops t j:=by
 unfold tX at hk;unfold yielded GM;cases e1:ops[j]? with
 |none=>rfl
 |some q=>
  rw[e1] at hk;simp only[Option.bind_some];simp only at hk;cases e2:q.dst with
  |none=>rfl
  |some d=>
   rw[e2] at hk;simp only[Option.bind_some];simp only at hk;cases e4:t.get d with
   |none=>rw[e4] at hk;cases hk
   |some y=>
    have hv:=ht.2 d y e4;rw[Array.getD_eq_getD_getElem?] at hv;cases e3:a.tmps[d]? with
    |none=>rw[e3] at hv;cases y<;>first|rfl|(exfalso;simp only[Option.getD_none,VR,Go.undef] at hv;cases hv)
    |some v=>
     rw[e3] at hv;simp only[Option.getD_some] at hv;cases v with
     |bool c=>rw[VG hv]
     |_=>cases y<;>first|rfl|(exfalso;simp only[VR] at hv;cases hv)
theorem aa4{g:Nat×Bool}(ht:TR ρ nt t a.tmps)(hg:o.guard=some g)(hk:tX ops t g.1=true):Region.wanted o (yielded ops a.tmps)=qL ops g t:=by
 unfold Region.wanted qL;rw[hg];simp only[aa3 ht g.1 hk];cases GM ops t g.1 with
 |none=>rfl
 |some b=>cases b<;>cases g.2<;>rfl
theorem DY{v:AV}(h:jk nt t dst v=some t1):(dst=none/\t1=t)\/∃d,dst=some d/\d<nt/\t1=t.put d (some v):=by
 cases dst with
 |none=>injection h with h;exact .inl ⟨rfl,h.symm⟩
 |some d=>
  have h': @Bool.rec (fun _=>Option<|Tr AV) none (some<|t.put d<|some v) (Nat.blt d nt)=some t1:=h;rw[zN] at h';by_cases q:d<nt
  ·rw[if_pos q] at h';injection h' with h';exact .inr ⟨d,rfl,q,h'.symm⟩
  ·rw[if_neg q] at h';cases h'
theorem DZ{y:AV}{v:Value}(ht:TR ρ nt t a.tmps)(iX:nt<=top)(h:jk nt t dst y=some t1)(hv:VR ρ y v):TR ρ nt t1 (a.put dst v).tmps/\(a.put dst v).defers=a.defers:=by
 rcases DY h with⟨rfl,rfl⟩|⟨d,rfl,hd,rfl⟩
 ·exact⟨ht,rfl⟩
 ·exact⟨ht.set hd iX hv,rfl⟩
structure At (B:aI) (ρ:aw) (s:AS) (nt:Nat) (t:Tr AV) (w:World) (a:Act):Prop where
 tr:TR ρ nt t a.tmps
 rel:Rel B ρ s.h w
 g:gk ρ
 nt:nt<=top
 cG:bF s
def Fi(P:Program)(B:aI)(ρ:aw)(s s1:AS)(nt:Nat)(t1:Tr AV)(w:World)(a:Act)(m:Machine)(m':Act->World->Machine):Prop:=∃σ a' w',Ext s.nx s1.nx ρ σ/\At B σ s1 nt t1 w' a'/\a'.defers=a.defers/\cP B w w'/\Steps P m (m' a' w')
theorem UL(hc:fR P B SG)(hl:∀t a,SF<|SG t a)(ho:ops[i]? =some o)(ay:At B ρ s nt t w a)(hf:dK s.nx s1.nx ρ)(h:gP P SG nt ops o t s= .ok t1 s1)(b:Frame)(k:List Item)(cs:List Frame)(rest:List Nat):
 Fi P B ρ s s1 nt t1 w a (lone (b.atR a<|.inRegion ops (i::rest)::k) cs w) (fun a' w'=>lone (b.atR a'<|.inRegion ops rest::k) cs w'):=by
 have main:∀(f:(dP P o.op).val SG t s=(dP P o.op).val SG t s),Region.wanted o (yielded ops a.tmps)=true->sO (dP P o.op) o.dst SG nt t s= .ok t1 s1->
  Fi P B ρ s s1 nt t1 w a (lone (b.atR a<|.inRegion ops (i::rest)::k) cs w) (fun a' w'=>lone (b.atR a'<|.inRegion ops rest::k) cs w'):=by
  intro _ hw hk;unfold sO at hk;obtain⟨v,s2,h1,h2⟩:=M.aR hk;obtain⟨h3,rfl⟩:=gT h2;obtain⟨hd,hb⟩:=ags hc hl ay.tr ay.g ay.cG ay.rel hf h1;obtain⟨u,w',⟨σ,e1,e2,e3,e4⟩,st⟩:=To ho hw hd hb b k cs rest;obtain⟨q1,q2⟩:=DZ (ay.tr.mono e1.le) ay.nt h3 e2;exact⟨σ,a.put o.dst u,w',e1,⟨q1,e3,ay.g.mono e1.le,ay.nt,(SF.Iq P hl t o.op).cG ay.cG h1⟩,q2,e4,st⟩
 unfold gP Cl at h;cases hg:o.guard with
 |none=>rw[hg] at h;exact main rfl (by unfold Region.wanted;rw[hg]) h
 |some g=>
  rw[hg] at h;have h':uw ops g (dP P o.op) o.dst SG nt t s= .ok t1 s1:=h;unfold uw at h';obtain⟨hk,h'⟩:=cY h';have hw:=aa4 (ops:=ops) ay.tr hg hk;cases q:qL ops g t with
  |true=>rw[q] at h' hw;exact main rfl hw h'
  |false=>rw[q] at h' hw;obtain⟨h3,rfl⟩:=gT (show lift (jk nt t o.dst nq) s= .ok t1 s1 from h');obtain⟨q1,q2⟩:=DZ ay.tr ay.nt h3<|VR.undef ρ;have hs:=stepR_op_skip (P:=P) (b:=b) (a:=a) (k:=k) (cs:=cs) (w:=w) (ops:=ops) (i:=i) (rest:=rest) (by simp[ho];simpa using hw);simp only[ho,Option.bind_some] at hs;exact⟨ρ,a.put o.dst undef,w,Ext.refl _ _ _,⟨q1,ay.rel,ay.g,ay.nt,ay.cG⟩,q2,cP.refl _ _,.one hs⟩
theorem OE{ops:Array Oper}{nt:Nat}(hc:fR P B SG)(hl:∀t a,SF<|SG t a)(b:Frame)(k:List Item)(cs:List Frame):∀(n i:Nat) (l:List Oper) {t t1:Tr AV} {s s1:AS} {ρ:aw} {a:Act} {w:World},l.length=n->ops.toList.drop i=l->
 At B ρ s nt t w a->dK s.nx s1.nx ρ->jl P SG nt ops l t s= .ok t1 s1->
 Fi P B ρ s s1 nt t1 w a (lone (b.atR a<|.inRegion ops (List.range' i n)::k) cs w) (fun a' w'=>lone (b.atR a' k) cs w')
 |0,i,l,t,t1,s,s1,ρ,a,w,hn,_,ay,_,h=>by have:l=[]:=List.eq_nil_of_length_eq_zero hn;subst this;obtain⟨rfl,rfl⟩:=bI (show M.pure t s= .ok t1 s1 from h);exact⟨ρ,a,w,Ext.refl _ _ _,ay,rfl,cP.refl _ _,.one stepR_region_end⟩
 |n+1,i,l,t,t1,s,s1,ρ,a,w,hn,ni,ay,hf,h=>by
  cases l with
  |nil=>cases hn
  |cons o l=>
   obtain⟨t2,s2,h1,h2⟩:=M.aR (show((gP P SG nt ops o t).bind<|jl P SG nt ops l) s= .ok t1 s1 from h);have ho:ops[i]? =some o:=by
    have:(ops.toList.drop i)[0]? =some o:=by rw[ni];rfl
    rw[List.getElem?_drop] at this;simpa using this
   have ahR:ops.toList.drop (i+1)=l:=by rw[←List.drop_drop,ni];rfl
   have ly:s.nx<=s2.nx:=(SF.gP P hl nt ops o t).le ay.cG h1;have dI:bF s2:=(SF.gP P hl nt ops o t).cG ay.cG h1;have qy:s2.nx<=s1.nx:=(SF.jl P hl nt ops l t2).le dI h2;obtain⟨σ,a',w',e1,e2,e3,e4,e5⟩:=UL hc hl ho ay (hf.sub (Nat.le_refl _) qy) h1 b k cs<|List.range' (i+1) n;obtain⟨τ,Iz,nJ,f1,f2,f3,f4,f5⟩:=OE hc hl b k cs n (i+1) l (by simpa using hn) ahR e2 (hf.next ly e1) h2;exact⟨τ,Iz,nJ,e1.trans ly qy f1,f2,f3.trans e3,e4.trans f4,by rw[List.range'_succ];exact Steps.trans e5 f5⟩
theorem abw{id:Nat}(hc:fR P B SG)(hl:∀t a,SF<|SG t a)(ay:At B ρ s nt t w a)(hf:dK s.nx s1.nx ρ)(h:jl P SG nt ops ops.toList t s= .ok t1 s1)(b:Frame)(k:List Item)(cs:List Frame):
 Fi P B ρ s s1 nt t1 w a (lone (b.atR a<|.code (.region id ops false)::k) cs w) (fun a' w'=>lone (b.atR a' k) cs w'):=by
 obtain⟨σ,a',w',e1,e2,e3,e4,e5⟩:=OE hc hl b k cs ops.size 0 ops.toList jJ jJ ay hf h;exact⟨σ,a',w',e1,e2,e3,e4,.head stepR_region (by rw[List.range_eq_range'];exact e5)⟩
end
end Go.Rn
namespace Go.Rn
open Go.RowKit
variable {listed:Array Bool} {i:Nat}
def oM(acc:Array Nat)(o:Oper):Nat:=o.after.foldl (fun s e=>if Region.binds .any e then s|||2 ^ e.on|||acc.getD e.on 0 else s) 0
theorem SW(acc:Array Nat)(o:Oper)(i:Nat):(oM acc o).testBit i=true↔∃e∈o.after.toList,Region.binds .any e=true/\(e.on=i\/(acc.getD e.on 0).testBit i=true):=by
 unfold oM;rw[←Array.foldl_toList];have:∀(l:List Edge) (s:Nat),(l.foldl (fun s e=>if Region.binds .any e then s|||2 ^ e.on|||acc.getD e.on 0 else s) s).testBit i=true↔
  s.testBit i=true\/∃e∈l,Region.binds .any e=true/\(e.on=i\/(acc.getD e.on 0).testBit i=true):=by
  intro l;induction l with
  |nil=>intro s;simp
  |cons e l ih=>
   intro s;rw[List.foldl_cons,ih];by_cases q:Region.binds .any e=true
   ·rw[if_pos q];simp only[Nat.testBit_or,Bool.or_eq_true,Nat.testBit_two_pow,decide_eq_true_eq,List.mem_cons,exists_eq_or_imp,q,true_and];constructor
    ·rintro ((h|h)|h)
     ·rcases h with h|h
      ·exact .inl h
      ·exact .inr<|.inl<|.inl h
     ·exact .inr<|.inl<|.inr h
     ·exact .inr<|.inr h
    ·rintro (h|(h|h)|h)
     ·exact .inl<|.inl<|.inl h
     ·exact .inl<|.inl<|.inr h
     ·exact .inl<|.inr h
     ·exact .inr h
   ·rw[if_neg q];simp only[List.mem_cons,exists_eq_or_imp,q,false_and,false_or,Bool.false_eq_true]
 have h:=this o.after.toList 0;simpa using h
theorem Nr(l:List Oper):∀(acc:Array Nat),(l.foldl (fun acc o=>acc.push<|oM acc o) acc).size=acc.size+l.length/\
 (∀k,k<acc.size->(l.foldl (fun acc o=>acc.push<|oM acc o) acc).getD k 0=acc.getD k 0):=by
 induction l with
 |nil=>intro acc;exact⟨by simp,fun k _=>rfl⟩
 |cons o l ih=>intro acc;rw[List.foldl_cons];obtain⟨h1,h2⟩:=ih<|acc.push<|oM acc o;refine⟨by rw[h1];simp;omega,fun k hk=>?_⟩;rw[h2 k wM];simp only[Array.getD_eq_getD_getElem?,Array.getElem?_push];rw[if_neg ak]
theorem T3{ops:Array Oper}{j:Nat}{o:Oper}(ho:ops[j]? =some o):
 (Region.before ops).getD j 0=oM ((ops.toList.take j).foldl (fun acc o=>acc.push<|oM acc o) #[]) o/\
 ∀k,k<j->((ops.toList.take j).foldl (fun acc o=>acc.push<|oM acc o) #[]).getD k 0=(Region.before ops).getD k 0:=by
 have hb:Region.before ops=ops.toList.foldl (fun acc o=>acc.push<|oM acc o) #[]:=by unfold Region.before;rw[←Array.foldl_toList];rfl
 have hj:j<ops.toList.length:=by have:=(Array.getElem?_eq_some_iff.1 ho).1;simpa using this
 have kP:ops.toList[j]? =some o:=by simpa using ho
 have agt:ops.toList=ops.toList.take j++o::ops.toList.drop (j+1):=by
  have e:ops.toList.drop j=o::ops.toList.drop (j+1):=by rw[List.drop_eq_getElem_cons hj];congr 1;rw[List.getElem?_eq_getElem hj] at kP;injection kP
  rw[←e,List.take_append_drop]
 obtain⟨s1,_⟩:=Nr (ops.toList.take j) #[];have lz:((ops.toList.take j).foldl (fun acc o=>acc.push<|oM acc o) #[]).size=j:=by rw[s1,List.length_take,Nat.min_eq_left ak];exact Nat.zero_add j
 generalize hA:(ops.toList.take j).foldl (fun acc o=>acc.push<|oM acc o) #[]=A at*;have yZ:Region.before ops=(ops.toList.drop<|j+1).foldl (fun acc o=>acc.push<|oM acc o) (A.push<|oM A o):=by
  rw[hb]
  conv=>lhs;rw[agt]
  rw[List.foldl_append,hA,List.foldl_cons]
 obtain⟨_,q2⟩:=Nr (ops.toList.drop<|j+1)<|A.push<|oM A o;refine⟨?_,fun k hk=>?_⟩
 ·rw[yZ,q2 j wM];rw[Array.getD_eq_getD_getElem?,Array.getElem?_push,if_pos lz.symm];rfl
 ·rw[yZ,q2 k wM];simp only[Array.getD_eq_getD_getElem?,Array.getElem?_push];rw[if_neg ak]
theorem Tb(ops:Array Oper):(Region.before ops).size=ops.size:=by
 have hb:Region.before ops=ops.toList.foldl (fun acc o=>acc.push<|oM acc o) #[]:=by unfold Region.before;rw[←Array.foldl_toList];rfl
 rw[hb,(Nr ops.toList #[]).1];simp
theorem aaA{ops:Array Oper}(he:J0 ops)(D:Nat->Prop)(hD:∀(j:Nat) (o:Oper) (e:Edge),ops[j]? =some o->D j->e∈o.after->Region.binds .any e=true->D e.on):
 ∀(n j i:Nat),j<=n->((Region.before ops).getD j 0).testBit i=true->i<j/\(D j->D i)/\((∀(o:Oper) (e:Edge),ops[j]? =some o->e∈o.after->Region.binds .any e=true->D e.on)->D i):=by
 intro n;induction n with
 |zero=>
  intro j i hj h;have:j=0:=by omega
  subst this;cases ho:ops[0]? with
  |none=>
   have:¬0<(Region.before ops).size:=by rw[Tb];intro q;rw[Array.getElem?_eq_getElem q] at ho;cases ho
   rw[Array.getD_eq_getD_getElem?,Array.getElem?_eq_none ak] at h;simp at h
  |some o=>obtain⟨h1,_⟩:=T3 ho;rw[h1,SW] at h;obtain⟨e,hm,C4,_⟩:=h;exact absurd (he 0 o e ho (Array.mem_toList_iff.1 hm) C4)<|Nat.not_lt_zero _
 |succ n ih=>
  intro j i hj h;by_cases q:j<=n
  ·exact ih j i q h
  ·have:j=n+1:=by omega
   subst this;cases ho:ops[n+1]? with
   |none=>
    have:¬n+1<(Region.before ops).size:=by rw[Tb];intro q;rw[Array.getElem?_eq_getElem q] at ho;cases ho
    rw[Array.getD_eq_getD_getElem?,Array.getElem?_eq_none ak] at h;simp at h
   |some o=>
    obtain⟨h1,h2⟩:=T3 ho;rw[h1,SW] at h;obtain⟨e,hm,C4,da⟩:=h;have eF:=Array.mem_toList_iff.1 hm;have cF:=he (n+1) o e ho eF C4;rcases da with rfl|da
    ·exact⟨cF,fun Rv=>hD _ o e ho Rv eF C4,fun dG=>dG o e rfl eF C4⟩
    ·rw[h2 e.on cF] at da;obtain⟨a,b,_⟩:=ih e.on i ak da;exact⟨by omega,fun Rv=>b<|hD _ o e ho Rv eF C4,fun dG=>b<|dG o e rfl eF C4⟩
def open_(listed:Array Bool):Nat:=(List.range listed.size).countP fun i=> !listed.getD i true
theorem acf{n:Nat}{p q:Nat->Bool}(hi:i<n)(hp:p i=true)(hq:q i=false)(cz:∀k,k≠i->q k=p k):(List.range n).countP q<(List.range n).countP p:=by
 induction n with
 |zero=>omega
 |succ n ih=>
  rw[List.range_succ,List.countP_append,List.countP_append];by_cases e:i=n
  ·subst e;have:(List.range i).countP q=(List.range i).countP p:=by
    apply List.countP_congr;intro k hk;have:k≠i:=by have:=List.mem_range.1 hk;omega
    rw[cz k this]
   rw[this];simp[hp,hq]
  ·have:=ih ak;have e2:(List.countP q [n])=List.countP p [n]:=by simp[List.countP_cons,cz n<|Ne.symm e]
   rw[e2];omega
theorem ado(hi:listed.getD i true=false):open_ (listed.setIfInBounds i true)<open_ listed:=by
 have cF:i<listed.size:=by
  rcases Nat.lt_or_ge i listed.size with q|q
  ·exact q
  ·rw[Array.getD_eq_getD_getElem?,Array.getElem?_eq_none q] at hi;cases hi
 unfold open_;rw[Array.size_setIfInBounds];refine acf cF (by simp[hi]) ?_ fun k hk=>?_
 ·simp[Array.getD_eq_getD_getElem?,Array.getElem?_setIfInBounds_self_of_lt cF]
 ·simp only[Array.getD_eq_getD_getElem?];rw[Array.getElem?_setIfInBounds_ne ak]
theorem acg(h:open_ listed=0):∀i,i<listed.size->listed.getD i false=true:=by intro i hi;unfold open_ at h;rw[List.countP_eq_zero] at h;have:=h i<|List.mem_range.2 hi;rw[Array.getD_eq_getD_getElem?,Array.getElem?_eq_getElem hi] at this ⊢;simpa using this
theorem abx{ops:Array Oper}(he:J0 ops)(hs:listed.size=ops.size)(hr:Region.ready .any ops listed=[]):∀n i,i<n->i<ops.size->listed.getD i false=true:=by
 intro n;induction n with
 |zero=>intro i hi;omega
 |succ n ih=>
  intro i hi cF;by_cases q:i<n
  ·exact ih i q cF
  ·have:i=n:=by omega
   subst this;cases h:listed.getD i false with
   |true=>rfl
   |false=>
    exfalso;have rk:i∈Region.ready .any ops listed:=by
     unfold Region.ready;rw[List.mem_filter];refine⟨List.mem_range.2 cF,?_⟩;have h1:listed.getD i true=false:=by rw[Array.getD_eq_getD_getElem?,Array.getElem?_eq_getElem ak] at h ⊢;simpa using h
     rw[h1,Array.getElem?_eq_getElem cF];simp only[Bool.not_false,Bool.true_and,Option.map_some,Option.getD_some];rw[Array.all_eq_true_iff_forall_mem];intro e hm;cases hb:Region.binds .any e with
     |false=>rfl
     |true=>have ajM:=he i ops[i] e (Array.getElem?_eq_getElem cF) hm hb;simp only[Bool.not_true,Bool.false_or];exact ih e.on ajM ak
    rw[hr] at rk;cases rk
section
variable {P:Program} {ops:Array Oper}
theorem ach(he:J0 ops)(b:Frame)(k:List Item)(cs:List Frame)(Inv:Array Bool->Act->World->Prop)(ahS:∀(listed:Array Bool) (a:Act) (w:World) (i:Nat) (o:Oper) (rest:List Nat),listed.size=ops.size->Inv listed a w->ops[i]? =some o->listed.getD i true=false->
 (∀e∈o.after,Region.binds .any e=true->listed.getD e.on false=true)->
 ∃a' w',Inv (listed.setIfInBounds i true) a' w'/\Steps P (lone (b.atR a<|.inRegion ops (i::rest)::k) cs w) (lone (b.atR a'<|.inRegion ops rest::k) cs w')):
 ∀(fuel t:Nat) (listed:Array Bool) (a:Act) (w:World),listed.size=ops.size->open_ listed<=fuel->Inv listed a w->∃BM a' w',BM.size=ops.size/\(∀i,i<ops.size->BM.getD i false=true)/\Inv BM a' w'/\Steps P (lone (b.atR a<|.inRegion ops (Region.linearise.go .any ops fuel t listed [])::k) cs w) (lone (b.atR a' k) cs w'):=by
 intro fuel;induction fuel with
 |zero=>
  intro t listed a w hs ho hi;refine⟨listed,a,w,hs,?_,hi,?_⟩
  ·intro i cF;exact acg ak i ak
  ·simp only[Region.linearise.go,List.reverse_nil];exact .one stepR_region_end
 |succ fuel ih=>
  intro t listed a w hs ho hi;simp only[Region.linearise.go];change ∃BM a' w',BM.size=ops.size/\(∀i,i<ops.size->BM.getD i false=true)/\Inv BM a' w'/\
   Steps P (lone (b.atR a<|.inRegion ops (match (Region.ready .any ops listed)[t % (Region.ready .any ops listed).length]? with
    |some i=>Region.linearise.go .any ops fuel (t / (Region.ready .any ops listed).length) (listed.setIfInBounds i true) [i]
    |none=>[].reverse)::k) cs w) (lone (b.atR a' k) cs w')
  cases hq:(Region.ready .any ops listed)[t % (Region.ready .any ops listed).length]? with
  |none=>
   have LO:Region.ready .any ops listed=[]:=by
    cases hr:Region.ready .any ops listed with
    |nil=>rfl
    |cons x xs=>rw[hr] at hq;have cF:t % (x::xs).length<(x::xs).length:=Nat.mod_lt _ jJ;simp at hq;simp at cF;omega
   refine⟨listed,a,w,hs,fun i cF=>abx he hs LO (i+1) i ak cF,hi,?_⟩;simp only[List.reverse_nil];exact .one stepR_region_end
  |some i=>
   simp only[];have rk:=List.mem_of_getElem? hq;unfold Region.ready at rk;rw[List.mem_filter,Bool.and_eq_true] at rk;obtain⟨cF,h1,h2⟩:=rk;have ajN:=List.mem_range.1 cF;have Zc:ops[i]? =some ops[i]:=Array.getElem?_eq_getElem ajN;rw[Zc] at h2;simp only[Option.map_some,Option.getD_some] at h2;rw[Array.all_eq_true_iff_forall_mem] at h2;have yT:listed.getD i true=false:=by simpa using h1
   rw[linearise_go_acc,List.reverse_singleton,List.singleton_append];obtain⟨a',w',j1,j2⟩:=ahS listed a w i ops[i] (Region.linearise.go .any ops fuel (t / (Region.ready .any ops listed).length) (listed.setIfInBounds i true) []) hs hi Zc yT (fun e hm hb=>by have:=h2 e hm;rw[hb] at this;simpa using this);obtain⟨l',Iz,nJ,k0,k1,k2,k3⟩:=ih (t / (Region.ready .any ops listed).length) (listed.setIfInBounds i true) a' w' (by simp[hs]) (by have:=ado yT;omega) j1;exact⟨l',Iz,nJ,k0,k1,k2,Steps.trans j2 k3⟩
theorem adp(n:Nat):open_ (Array.replicate n false)<=n:=by unfold open_;have:=List.countP_le_length (p:=fun i=> !(Array.replicate n false).getD i true) (l:=List.range (Array.replicate n false).size);simpa using this
end
end Go.Rn
namespace Go.Rn
open Go.RowKit
variable {g f:Operand->Option AV}
section
variable {P:Program} {SG:aO} {t u:Tr AV}
theorem Jq:∀{l:List Operand},(∀y∈l,f y=g y)->jR f l=jR g l
 |[],_=>rfl
 |y::l,h=>by simp only[jR,h y List.mem_cons_self,Jq fun z hz=>h z<|List.mem_cons_of_mem _ hz]
theorem Ns:∀{l:List<|Nat×Operand},(∀y∈l,f y.2=g y.2)->vZ f l=vZ g l
 |[],_=>rfl
 |(i,y)::l,h=>by simp only[vZ,h (i,y) List.mem_cons_self,Ns fun z hz=>h z<|List.mem_cons_of_mem _ hz]
theorem NS{y:Option Operand}(h:∀z,y=some z->f z=g z):opt f y=opt g y:=by
 cases y with
 |none=>rfl
 |some z=>simp only[opt,h z rfl]
theorem aci{op:Op}(h:∀y∈op.operands,aK t y=aK u y):(dP P op).val SG t=(dP P op).val SG u:=by
 cases op
 case move y=>show v7 y SG t=v7 y SG u;simp only[v7,h y fV]
 case assign y=>show v7 y SG t=v7 y SG u;simp only[v7,h y fV]
 case pick c p q=>show Ck c p q SG t=Ck c p q SG u;simp only[Ck,h c fV,h p fV,h q fV]
 case alloc e=>rfl
 case box e y=>show Cx y SG t=Cx y SG u;simp only[Cx,h y fV]
 case build ty parts=>show BY P ty parts.toList SG t=BY P ty parts.toList SG u;simp only[BY,Ns (f:=aK t) (g:=aK u) (l:=parts.toList) fun y hy=>h y.2 (by simp only[Op.operands,List.mem_toArray];exact List.mem_map_of_mem hy)]
 case buildSlice ty len parts=>show Bn P ty len parts.toList SG t=Bn P ty len parts.toList SG u;simp only[Bn,Ns (f:=aK t) (g:=aK u) (l:=parts.toList) fun y hy=>h y.2 (by simp only[Op.operands,List.mem_toArray];exact List.mem_map_of_mem hy)]
 case load ty y=>show uu P ty y SG t=uu P ty y SG u;simp only[uu,h y fV]
 case store ty y z=>show xZ P ty y z SG t=xZ P ty y z SG u;simp only[xZ,h y fV,h z fV]
 case nilCheck y=>show Bs y SG t=Bs y SG u;simp only[Bs,h y fV]
 case binOp op ty y z v=>show uD P op ty y z SG t=uD P op ty y z SG u;simp only[uD,h y fV,h z fV]
 case unOp op ty y=>show CZ op y SG t=CZ op y SG u;simp only[CZ,h y fV]
 case convert src dst y=>show Bz P src dst y SG t=Bz P src dst y SG u;simp only[Bz,h y fV]
 case makeInterface ty y=>show DG P ty y SG t=DG P ty y SG u;simp only[DG,h y fV]
 case makeFunc fn first captured=>show Bt fn first.toList captured.toList SG t=Bt fn first.toList captured.toList SG u;simp only[Bt,Jq (f:=aK t) (g:=aK u) (l:=first.toList) fun y hy=>h y (by simp only[Op.operands,Array.mem_append];exact .inl<|Array.mem_toList_iff.1 hy),Jq (f:=aK t) (g:=aK u) (l:=captured.toList) fun y hy=>h y (by simp only[Op.operands,Array.mem_append];exact .inr<|Array.mem_toList_iff.1 hy)]
 case makeMap ty y=>
  cases y with
  |none=>rfl
  |some y=>show BA P ty (some y) SG t=BA P ty (some y) SG u;simp only[BA,h y fV]
 case makeSlice ty l c=>show Bp P ty l c SG t=Bp P ty l c SG u;simp only[Bp,h l fV,h c fV]
 case slice ty y lo hi mx=>show qN P ty y lo hi mx SG t=qN P ty y lo hi mx SG u;simp only[qN,h y fV,NS (f:=aK t) (g:=aK u) (y:=lo) (fun z hz=>h z<|by simp[Op.operands,hz]),NS (f:=aK t) (g:=aK u) (y:=hi) (fun z hz=>h z<|by simp[Op.operands,hz]),NS (f:=aK t) (g:=aK u) (y:=mx) fun z hz=>h z<|by simp[Op.operands,hz]]
 case fieldAddr ty y f=>show Bq P ty y f SG t=Bq P ty y f SG u;simp only[Bq,h y fV]
 case field ty y f=>show BZ P ty y f SG t=BZ P ty y f SG u;simp only[BZ,h y fV]
 case indexAddr ty y z=>show qH P ty y z SG t=qH P ty y z SG u;simp only[qH,h y fV,h z fV]
 case index ty y z=>show B0 P ty y z SG t=B0 P ty y z SG u;simp only[B0,h y fV,h z fV]
 case lookup ty y z ok=>show xO P ty y z ok SG t=xO P ty y z ok SG u;simp only[xO,h y fV,h z fV]
 case mapUpdate ty m k y=>show qK P ty m k y SG t=qK P ty m k y SG u;simp only[qK,h m fV,h k fV,h y fV]
 case insert ty m k y=>show qK P ty m k y SG t=qK P ty m k y SG u;simp only[qK,h m fV,h k fV,h y fV]
 case typeAssert y xt asserted ok=>show D7 P asserted ok y SG t=D7 P asserted ok y SG u;simp only[D7,h y fV]
 case range ty y=>show B1 P ty y SG t=B1 P ty y SG u;simp only[B1,h y fV]
 case entry y=>show B2 y SG t=B2 y SG u;simp only[B2,h y fV]
 case next y Ru=>
  cases Ru with
  |true=>show DW y SG t=DW y SG u;simp only[DW,h y fV]
  |false=>rfl
 case extract y i=>show BB y i SG t=BB y i SG u;simp only[BB,h y fV]
 case call c=>
  obtain⟨callee,args,ts⟩:=c;have ha:∀(cl:Callee),(∀y∈(Op.call ⟨cl,args,ts⟩).operands,aK t y=aK u y)->jR (aK t) args.toList=jR (aK u) args.toList:=fun cl hh=>Jq fun y hy=>hh y (by simp only[Op.operands,Call.operands,Array.mem_append];exact .inr<|Array.mem_toList_iff.1 hy);cases callee with
  |builtin b=>show oK P b ts args.toList SG t=oK P b ts args.toList SG u;simp only[oK,ha _ h]
  |value f=>show uv f args.toList SG t=uv f args.toList SG u;simp only[uv,ha _ h,h f<|by simp[Op.operands,Call.operands]]
  |invoke r name=>rfl
 all_goals rfl
theorem adq{y:Operand}(h:∀d,y= .tmp d->t.get d=u.get d):aK t y=aK u y:=by
 cases y with
 |tmp d=>show t.get d=u.get d;rw[h d rfl]
 |_=>rfl
theorem Tp{nt:Nat}{ops:Array Oper}{o:Oper}(h:∀d∈o.looksAt ops,t.get d=u.get d){s s1:AS}{t1:Tr AV}(hr:gP P SG nt ops o t s= .ok t1 s1):
 ∃v,jk nt t o.dst v=some t1/\∀u1,jk nt u o.dst v=some u1->gP P SG nt ops o u s= .ok u1 s1:=by
 have eU:(dP P o.op).val SG t=(dP P o.op).val SG u:=aci fun y hy=>adq fun d hd=>h d (by unfold Oper.looksAt;refine List.mem_append_left _<|List.mem_filterMap.2 ⟨y,Array.mem_toList_iff.2 hy,by rw[hd]⟩);have main:sO (dP P o.op) o.dst SG nt t s= .ok t1 s1->∃v,jk nt t o.dst v=some t1/\∀u1,jk nt u o.dst v=some u1->sO (dP P o.op) o.dst SG nt u s= .ok u1 s1:=by intro hk;unfold sO at hk;obtain⟨v,s2,h1,h2⟩:=M.aR hk;obtain⟨h3,rfl⟩:=gT h2;refine⟨v,h3,fun u1 hu=>?_⟩;unfold sO;rw[←eU,M.bO h1];unfold lift;rw[hu]
 unfold gP Cl at hr ⊢;cases hg:o.guard with
 |none=>rw[hg] at hr;exact main hr
 |some g=>
  rw[hg] at hr;have lT:uw ops g (dP P o.op) o.dst SG nt t s= .ok t1 s1:=hr;have hw:qL ops g t=qL ops g u:=by
   unfold qL GM;cases e1:ops[g.1]? with
   |none=>rfl
   |some q=>
    simp only;cases e2:q.dst with
    |none=>rfl
    |some d=>simp only;rw[h d (by unfold Oper.looksAt;refine List.mem_append_right _ ?_;rw[hg];simp[e1,e2])]
  have iA:tX ops t g.1=tX ops u g.1:=by
   unfold tX;cases e1:ops[g.1]? with
   |none=>rfl
   |some q=>
    simp only;cases e2:q.dst with
    |none=>rfl
    |some d=>simp only;rw[h d (by unfold Oper.looksAt;refine List.mem_append_right _ ?_;rw[hg];simp[e1,e2])]
  show ∃v,jk nt t o.dst v=some t1/\∀u1,jk nt u o.dst v=some u1->uw ops g (dP P o.op) o.dst SG nt u s= .ok u1 s1;unfold uw at lT ⊢;obtain⟨hk,lT⟩:=cY lT;rw[←hw, ←iA,hk,dA];cases q:qL ops g t with
  |true=>rw[q] at lT;exact main lT
  |false=>rw[q] at lT;obtain⟨h3,rfl⟩:=gT (show lift (jk nt t o.dst nq) s= .ok t1 s1 from lT);refine⟨nq,h3,fun u1 hu=>?_⟩;show lift (jk nt u o.dst nq) s1= .ok u1 s1;unfold lift;rw[hu]
end
end Go.Rn
namespace Go.Rn
open Go.RowKit
variable {b:Array Nat}
theorem Rel.congr{B:aI}{ρ:aw}{h h':Tr ae}{w:World}(r:Rel B ρ h w)(e:∀m,m<top->h'.get m=h.get m):Rel B ρ h' w:=by
 refine⟨fun n o hn hg=>r.is n o hn (by rw[←e n hn];exact hg),fun n m o p b N M hn hm h1 h2 da=>r.one n m o p b N M hn hm (by rw[←e n hn];exact h1) (by rw[←e m hm];exact h2) da,fun n m es ex left cur hn h1=>?_,r.size,
  fun i j m es ex left cur hJ iW iK iL hi hj h1 h2=>r.lone i j m es ex left cur hJ iW iK iL hi hj (by rw[←e i hi];exact h1) (by rw[←e j hj];exact h2),
  r.fz.of (aw.le_refl _) (fun _ _ _=>rfl) (fun b1 _ hn=>hn.sub fun m q hm hq hU=>⟨q,by rw[←e m hm];exact hq,hU⟩),
  r.tk.of (aw.le_refl _) (fun n q hn hq _=>by rw[←e n hn];exact hq) (Nat.le_refl _) (fun _ _ _=>rfl) (fun b1 _ hn=>hn.sub fun m q hm hq hU=>⟨q,by rw[←e m hm];exact hq,hU⟩) (fun _ _ _ _ _ e=>e)⟩
 obtain⟨a,b,c⟩:=r.iter n m es ex left cur hn (by rw[←e n hn];exact h1);exact⟨a,by rw[e m a];exact b,c⟩
theorem SI{x:dD}:∀{all:List dD},tK b x all=true->∀y∈all,x.i=y.i\/tY x y=true\/loose b x.i y.i=false
 |[],_,y,hy=>by cases hy
 |z::l,h,y,hy=>by
  simp only[tK] at h;cases q:(Nat.beq x.i z.i||(tY x z|| !loose b x.i z.i)) with
  |false=>rw[q] at h;cases h
  |true=>
   rw[q] at h;rcases List.mem_cons.1 hy with rfl|hy
   ·simp only[Bool.or_eq_true,Bool.not_eq_true'] at q;rcases q with q|q|q
    ·exact .inl<|eB.1 q
    ·exact .inr<|.inl q
    ·exact .inr<|.inr q
   ·exact SI h y hy
theorem T4{all:List dD}:∀{l:List dD},qQ b all l=true->∀x∈l,tZ x=true\/tK b x all=true
 |[],_,x,hx=>by cases hx
 |z::l,h,x,hx=>by
  simp only[qQ] at h;cases q:(tZ z||tK b z all) with
  |false=>rw[q] at h;cases h
  |true=>
   rw[q] at h;rcases List.mem_cons.1 hx with rfl|hx
   ·exact Bool.or_eq_true_iff.1 q
   ·exact T4 h x hx
theorem Tc{m:List Nat}:∀{l:List Nat},meets l m=false->∀x∈l,x ∉ m
 |[],_,x,hx=>by cases hx
 |z::l,h,x,hx=>by
  simp only[meets] at h;cases q:Cy z m with
  |true=>rw[q] at h;cases h
  |false=>
   rw[q] at h;rcases List.mem_cons.1 hx with rfl|hx
   ·intro e;rw[JJ.2 e] at q;cases q
   ·exact Tc h x hx
theorem Td{lo hi:Nat}:∀{l:List Nat},Ad lo hi l=false->∀x∈l,¬(lo<=x/\x<hi)
 |[],_,x,hx=>by cases hx
 |z::l,h,x,hx=>by
  simp only[Ad] at h;cases q:(Nat.ble lo z&&Nat.blt z hi) with
  |true=>rw[q] at h;cases h
  |false=>
   rw[q] at h;rcases List.mem_cons.1 hx with rfl|hx
   ·rintro ⟨h1,h2⟩;rw[show Nat.ble lo x=true from aL.2 h1,show Nat.blt x hi=true from(blt_eq _ _).mpr h2] at q;cases q
   ·exact Td h x hx
section
variable {P:Program} {SG:aO} {ops:Array Oper} {nt:Nat}
structure QK (P:Program) (SG:aO) (ops:Array Oper) (nt:Nat) (H:Nat->Tr ae) (N:Nat->Nat) (T:Nat->Tr AV) (k:Nat) (o:Oper) (x:dD) (s1:AS):Prop where
 lo:x.lo=N k
 hi:x.hi=N (k+1)
 run:gP P SG nt ops o (T k) ⟨H k,N k,N k,[],[]⟩= .ok (T<|k+1) s1
 h:s1.h=H (k+1)
 nx:s1.nx=N (k+1)
 rd:x.rd=below (N k) s1.rd
 wr:x.wr=below (N k) s1.wr
theorem T5(hl:∀t a,SF<|SG t a):∀(l:List Oper) (i:Nat) {t t':Tr AV} {s s':AS} {ms:List dD},bF s->nz P SG nt ops l i t s= .ok (t',ms) s'->
 bF s'/\∃(H:Nat->Tr ae) (N:Nat->Nat) (T:Nat->Tr AV),H 0=s.h/\N 0=s.nx/\T 0=t/\H l.length=s'.h/\N l.length=s'.nx/\T l.length=t'/\(∀k,k<=l.length->N k<=top)/\∀k o,l[k]? =some o->∃x s1,ms[k]? =some x/\x.i=i+k/\QK P SG ops nt H N T k o x s1
 |[],i,t,t',s,s',ms,fi,h=>by obtain⟨e,rfl⟩:=bI (show M.pure (t,[]) s= .ok (t',ms) s' from h);cases e;exact⟨fi,fun _=>s'.h,fun _=>s'.nx,fun _=>t,rfl,rfl,rfl,rfl,rfl,rfl,fun _ _=>fi.nx,fun k o h=>by simp at h⟩
 |o::l,i,t,t',s,s',ms,fi,h=>by
  obtain⟨x,s2,h1,h2⟩:=M.aR (show((alone i<|gP P SG nt ops o t).bind fun x=>(nz P SG nt ops l (i+1) x.1).bind fun y=>M.pure (y.1,x.2::y.2)) s= .ok (t',ms) s' from h);obtain⟨y,s3,h3,h4⟩:=M.aR h2;obtain⟨e,rfl⟩:=bI h4;cases e;obtain⟨a,s1,g1,rfl,rfl⟩:=TU h1;have Rx:bF s1:=(SF.gP P hl nt ops o t).cG (s:=⟨s.h,s.nx,s.nx,[],[]⟩) ⟨Nat.le_refl _,fi.nx⟩ g1;have fle:s.nx<=s1.nx:=(SF.gP P hl nt ops o t).le (s:=⟨s.h,s.nx,s.nx,[],[]⟩) ⟨Nat.le_refl _,fi.nx⟩ g1;have dI:bF ⟨s1.h,s1.nx,s.mark,below s.mark s1.rd++s.rd,below s.mark s1.wr++s.wr⟩:=⟨Nat.le_trans fi.mark fle,Rx.nx⟩;obtain⟨f3,H,N,T,a1,a2,a3,a4,a5,a6,a7,a8⟩:=T5 hl l (i+1) (t':=y.1) (ms:=y.2) dI h3;refine⟨f3,fun k=>match k with|0=>s.h|k+1=>H k,fun k=>match k with|0=>s.nx|k+1=>N k,fun k=>match k with|0=>t|k+1=>T k,rfl,rfl,rfl,a4,a5,a6,?_,?_⟩
  ·intro k hk;cases k with
   |zero=>exact fi.nx
   |succ k=>exact a7 k (by simpa using hk)
  ·intro k o2 hk;cases k with
   |zero=>simp only[List.getElem?_cons_zero,Option.some.injEq] at hk;subst hk;refine⟨_,s1,rfl,rfl,⟨rfl,a2.symm,?_,a1.symm,a2.symm,rfl,rfl⟩⟩;show gP P SG nt ops o t ⟨s.h,s.nx,s.nx,[],[]⟩= .ok (T 0) s1;rw[a3];exact g1
   |succ k=>simp only[List.getElem?_cons_succ] at hk;obtain⟨x,s4,b1,b2,b3⟩:=a8 k o2 hk;exact⟨x,s4,by simpa using b1,by rw[b2];omega,⟨b3.lo,b3.hi,b3.run,b3.h,b3.nx,b3.rd,b3.wr⟩⟩
structure Text (P:Program) (SG:aO) (ops:Array Oper) (nt:Nat) (H:Nat->Tr ae) (N:Nat->Nat) (T:Nat->Tr AV) (Rd Wr:Nat->Nat->Prop):Prop where
 top:∀k,k<=ops.size->N k<=Rn.top
 up:∀k,k<ops.size->N k<=N (k+1)
 m8:∀k m,k<ops.size->¬Wr k m->m<Rn.top->(H<|k+1).get m=(H k).get m
 made:∀k m,k<ops.size->N k<=m->m<N (k+1)->Wr k m
 wrote:∀k m,k<ops.size->Wr k m->m<N (k+1)/\(m<N k->Rd k m)
 slot:∀k o d,ops[k]? =some o->o.dst≠some d->(T<|k+1).get d=(T k).get d
 apart:∀i j m,i<ops.size->j<ops.size->i≠j->loose (Region.before ops) i j=true->Wr i m->¬Rd j m
 again:∀j o,ops[j]? =some o->∀(h:Tr ae),(∀m,m<Rn.top->Rd j m->h.get m=(H j).get m)->∃t1,gP P SG nt ops o (T j) ⟨h,N j,N j,[],[]⟩= .ok (T<|j+1) t1/\t1.nx=N (j+1)/\
  (∀m,Wr j m->t1.h.get m=(H<|j+1).get m)/\(∀m,¬Wr j m->m<Rn.top->t1.h.get m=h.get m)
theorem aeH(hl:∀t a,SF<|SG t a)(iX:nt<=top){t t':Tr AV}{s s':AS}{ms:List dD}(fi:bF s)(h:nz P SG nt ops ops.toList 0 t s= .ok (t',ms) s')(hm:qQ (Region.before ops) ms ms=true):
 bF s'/\∃(H:Nat->Tr ae) (N:Nat->Nat) (T:Nat->Tr AV) (Rd Wr:Nat->Nat->Prop),H 0=s.h/\N 0=s.nx/\T 0=t/\H ops.size=s'.h/\N ops.size=s'.nx/\T ops.size=t'/\Text P SG ops nt H N T Rd Wr:=by
 obtain⟨f',H,N,T,a1,a2,a3,a4,a5,a6,a7,a8⟩:=T5 hl ops.toList 0 fi h;have hlen:ops.toList.length=ops.size:=by simp
 rw[hlen] at a4 a5 a6 a7;refine⟨f',H,N,T,fun k m=>∃x,ms[k]? =some x/\m∈x.rd,fun k m=>∃x,ms[k]? =some x/\(m∈x.wr\/(N k<=m/\m<N (k+1))),a1,a2,a3,a4,a5,a6,?_⟩;have au:∀k,k<ops.size->∃o x s1,ops[k]? =some o/\ms[k]? =some x/\x.i=k/\QK P SG ops nt H N T k o x s1:=by
  intro k hk;have ho:ops.toList[k]? =some ops[k]:=by simp[hk]
  obtain⟨x,s1,b1,b2,b3⟩:=a8 k _ ho;exact⟨ops[k],x,s1,Array.getElem?_eq_getElem hk,b1,by omega,b3⟩
 have Mr:∀k,k<ops.size->∀o x s1,QK P SG ops nt H N T k o x s1->∃dr dw,Mi ⟨H k,N k,N k,[],[]⟩ s1 dr dw/\
  (∀A m0 t,Qf A m0 ⟨H k,N k,N k,[],[]⟩ t->(∀q∈dr,q<m0->A q)->∃t1,gP P SG nt ops o (T k) t= .ok (T<|k+1) t1/\X7 A m0 s1 t t1 dr dw)/\(∀m,m∈x.rd↔m∈dr/\m<N k)/\(∀m,m∈x.wr↔m∈dw/\m<N k):=by
  intro k hk o x s1 hd;obtain⟨dr,dw,d1,d2⟩:=SF.gP P hl nt ops o (T k) _ _ _ ⟨Nat.le_refl _,a7 k ak⟩ hd.run;refine⟨dr,dw,d1,d2,fun m=>?_,fun m=>?_⟩
  ·rw[hd.rd,xD,d1.rd];simp
  ·rw[hd.wr,xD,d1.wr];simp
 refine⟨a7,?_,?_,?_,?_,?_,?_,?_⟩
 ·intro k hk;obtain⟨o,x,s1,_,_,_,hd⟩:=au k hk;obtain⟨dr,dw,d1,_⟩:=Mr k hk o x s1 hd;have:=d1.nx;rw[hd.nx] at this;exact this
 ·intro k m hk hw ju;obtain⟨o,x,s1,_,hx,_,hd⟩:=au k hk;obtain⟨dr,dw,d1,_,_,d4⟩:=Mr k hk o x s1 hd;rw[←hd.h];by_cases q:m<N k
  ·refine d1.same m q fun e=>hw ⟨_,hx,.inl<|(d4 m).2 ⟨e,q⟩⟩
  ·refine d1.sP m ?_ ju;rw[hd.nx];rcases Nat.lt_or_ge m (N<|k+1) with q2|q2
   ·exact absurd ⟨_,hx,.inr ⟨by omega,q2⟩⟩ hw
   ·exact q2
 ·intro k m hk h1 h2;obtain⟨o,x,s1,_,hx,_,hd⟩:=au k hk;exact⟨x,hx,.inr ⟨h1,h2⟩⟩
 ·rintro k m hk ⟨x',rB,hw⟩;obtain⟨o,x,s1,_,hx,_,hd⟩:=au k hk;rw[hx] at rB;cases rB;obtain⟨dr,dw,d1,_,d3,d4⟩:=Mr k hk o _ s1 hd;have IA:=d1.nx;rw[hd.nx] at IA;have ajO:N k<=N (k+1):=IA;rcases hw with hw|⟨h1,h2⟩
  ·obtain⟨e1,e2⟩:=(d4 m).1 hw;exact⟨by omega,fun _=>⟨_,hx,(d3 m).2 ⟨d1.sub m e1,e2⟩⟩⟩
  ·exact⟨h2,fun q=>by omega⟩
 ·intro k o d ho cz;have hk:k<ops.size:=(Array.getElem?_eq_some_iff.1 ho).1;obtain⟨o',x,s1,kP,hx,_,hd⟩:=au k hk;rw[ho] at kP;cases kP;obtain⟨v,hv,_⟩:=Tp (u:=T k) (fun _ _=>rfl) hd.run;rcases DY hv with⟨_,e⟩|⟨d',e1,e2,e3⟩
  ·rw[e]
  ·rw[e3,Tr.lX _ _ _ _<|Nat.lt_of_lt_of_le e2 iX,if_neg (by intro e;subst e;exact cz e1)]
 ·rintro i j m hi hj cz agu ⟨x',rB,hw⟩ ⟨y',wO,hr⟩;obtain⟨_,x,s1,_,hx,xi,hd⟩:=au i hi;obtain⟨_,y,s2,_,hy,yi,he⟩:=au j hj;rw[hx] at rB;cases rB;rw[hy] at wO;cases wO;rcases T4 hm _ (List.mem_of_getElem? hx) with q|q
  ·unfold tZ at q;split at q
   ·rename_i hwr;rcases hw with hw|⟨h1,h2⟩
    ·rw[hwr] at hw;cases hw
    ·have:=aL.1 q;rw[hd.lo,hd.hi] at this;omega
   ·cases q
  ·rcases SI q _ (List.mem_of_getElem? hy) with e|e|e
   ·rw[xi,yi] at e;exact cz e
   ·unfold tY at e;simp only[Bool.and_eq_true,Bool.not_eq_true'] at e;rcases hw with hw|⟨h1,h2⟩
    ·exact Tc e.1 m hw hr
    ·exact Td e.2 m hr ⟨by rw[hd.lo];exact h1,by rw[hd.hi];exact h2⟩
   ·rw[xi,yi,agu] at e;cases e
 ·intro j o ho h' hag;have hj:j<ops.size:=(Array.getElem?_eq_some_iff.1 ho).1;obtain⟨o',x,s1,kP,hx,_,hd⟩:=au j hj;rw[ho] at kP;cases kP;obtain⟨dr,dw,d1,d2,d3,d4⟩:=Mr j hj o x s1 hd;obtain⟨t1,c1,c2⟩:=d2 (fun m=>∃x,ms[j]? =some x/\m∈x.rd) (N j) ⟨h',N j,N j,[],[]⟩
   ⟨rfl,rfl,Nat.le_refl _,fun k hk da=>by
    rcases da with da|da
    ·exact(hag k (Nat.lt_of_lt_of_le hk<|a7 j ak) da).symm
    ·exact absurd hk<|Nat.not_lt.2 da⟩ (fun q hq cF=>⟨x,hx,(d3 q).2 ⟨hq,cF⟩⟩)
  have cJ:t1.nx=N (j+1):=by rw[←c2.Cm.nx,hd.nx]
  refine⟨t1,c1,cJ,?_,?_⟩
  ·rintro m ⟨x',rB,hw⟩;rw[hx] at rB;cases rB;rw[←hd.h];have IA:=d1.nx;rw[hd.nx] at IA;have ajO:N j<=N (j+1):=IA;symm;rcases hw with hw|⟨h1,h2⟩
   ·obtain⟨e1,e2⟩:=(d4 m).1 hw;exact c2.Cm.is m (by rw[hd.nx];omega)<|.inl ⟨x,hx,(d3 m).2 ⟨d1.sub m e1,e2⟩⟩
   ·exact c2.Cm.is m (by rw[hd.nx];exact h2)<|.inr h1
  ·intro m hw ju;by_cases q:m<N j
   ·exact c2.same m q fun e=>hw ⟨_,hx,.inl<|(d4 m).2 ⟨e,q⟩⟩
   ·refine c2.sP m ?_ ju;rw[hd.nx];rcases Nat.lt_or_ge m (N<|j+1) with q2|q2
    ·exact absurd ⟨_,hx,.inr ⟨by omega,q2⟩⟩ hw
    ·exact q2
end
end Go.Rn
namespace Go.Rn
open Go.RowKit
variable {ρ:aw} {w:World} {t:Tr AV} {listed:Array Bool} {j:Nat} {a:Act}
section
variable {P:Program} {B:aI} {SG:aO} {ops:Array Oper} {nt:Nat} {H:Nat->Tr ae} {N:Nat->Nat} {T:Nat->Tr AV} {Rd Wr:Nat->Nat->Prop}
def jT(listed:Array Bool)(i:Nat):Prop:=listed.getD i false=true
def Cut(n:Nat)(W:Nat->Prop)(D:Nat->Prop)(c:Nat):Prop:=c<=n/\∀i,i<n->W i->(D i↔i<c)
theorem Tq{α:Type}{f:Nat->α}{n:Nat}{W:Nat->Prop}(hk:∀k,k<n->¬W k->f (k+1)=f k):∀(m c:Nat),c+m<=n->(∀i,c<=i->i<c+m->¬W i)->f (c+m)=f c
 |0,_,_,_=>rfl
 |m+1,c,hn,hw=>by have h1:=hk (c+m) ak<|hw (c+m) ak ak;rw[show c+(m+1)=c+m+1 from rfl,h1];exact Tq hk m c ak fun i h1 h2=>hw i h1 ak
theorem JM{α:Type}{f:Nat->α}{n:Nat}{W D:Nat->Prop}(hk:∀k,k<n->¬W k->f (k+1)=f k){c c':Nat}(h:Cut n W D c)(h':Cut n W D c'):f c=f c':=by
 have key:∀{a b:Nat},Cut n W D a->Cut n W D b->a<=b->f b=f a:=by intro a b ha hb Iv;obtain⟨m,rfl⟩:∃m,b=a+m:=⟨b - a,by omega⟩;refine Tq hk m a hb.1 fun i h1 h2 hw=>?_;have iz:i<n:=Nat.lt_of_lt_of_le h2 hb.1;have:=(ha.2 i iz hw).1<|(hb.2 i iz hw).2 h2;omega
 rcases Nat.le_total c c' with q|q
 ·exact(key h h' q).symm
 ·exact key h' h q
theorem zW(x:Text P SG ops nt H N T Rd Wr):∀{i j:Nat},i<=j->j<=ops.size->N i<=N j:=by
 intro i j mR hj;obtain⟨m,rfl⟩:∃m,j=i+m:=⟨j - i,by omega⟩;clear mR;induction m with
 |zero=>exact Nat.le_refl _
 |succ m ih=>exact Nat.le_trans (ih ak)<|x.up (i+m) ak
structure Inv (B:aI) (ops:Array Oper) (nt:Nat) (H:Nat->Tr ae) (N:Nat->Nat) (T:Nat->Tr AV) (Wr:Nat->Nat->Prop) (v9:aw) (LP:World) (LQ:Act) (listed:Array Bool) (a:Act) (w:World) (h:Tr ae) (t:Tr AV) (ρ:aw):Prop where
 rel:Rel B ρ h w
 tr:TR ρ nt t a.tmps
 le:v9.le ρ
 new:∀m,m<top->ρ m≠v9 m->∃i,i<ops.size/\jT listed i/\N i<=m/\m<N (i+1)
 heap:∀m,m<top->∃c,Cut ops.size (fun i=>Wr i m) (jT listed) c/\h.get m=(H c).get m
 EG:∀d,∃c,Cut ops.size (fun i=>∃o,ops[i]? =some o/\o.dst=some d) (jT listed) c/\t.get d=(T c).get d
 below:cP B LP w
 defers:a.defers=LQ.defers
 closed:∀(j:Nat) (o:Oper) (e:Edge),ops[j]? =some o->jT listed j->e∈o.after->Region.binds .any e=true->jT listed e.on
theorem GO(hj:j<listed.size)(i:Nat):jT (listed.setIfInBounds j true) i↔i=j\/jT listed i:=by
 unfold jT;simp only[Array.getD_eq_getD_getElem?];by_cases e:i=j
 ·subst e;rw[Array.getElem?_setIfInBounds_self_of_lt hj];simp
 ·rw[Array.getElem?_setIfInBounds_ne<|Ne.symm e];simp[e]
theorem OF(A0:Li ops)(x:Text P SG ops nt H N T Rd Wr)(hc:fR P B SG)(hl:∀t a,SF<|SG t a)(iX:nt<=top){v9:aw}(hg:gk v9)(ma:dK (N 0) (N ops.size) v9){LP:World}{LQ:Act}{o:Oper}(hs:listed.size=ops.size){h:Tr ae}(inv:Inv B ops nt H N T Wr v9 LP LQ listed a w h t ρ)(ho:ops[j]? =some o)(hj:listed.getD j true=false)(WN:∀e∈o.after,Region.binds .any e=true->listed.getD e.on false=true)(b:Frame)(k:List Item)(cs:List Frame)(rest:List Nat):
 ∃a' w' h' t' gJ,Inv B ops nt H N T Wr v9 LP LQ (listed.setIfInBounds j true) a' w' h' t' gJ/\Steps P (lone (b.atR a<|.inRegion ops (j::rest)::k) cs w) (lone (b.atR a'<|.inRegion ops rest::k) cs w'):=by
 have A3:j<ops.size:=(Array.getElem?_eq_some_iff.1 ho).1;have FT:¬jT listed j:=by unfold jT;rw[Array.getD_eq_getD_getElem?,Array.getElem?_eq_getElem ak] at hj ⊢;simp at hj ⊢;exact hj
 have Yb:=aaA A0.Xn (jT listed) inv.closed;have ordered:∀i,i≠j->loose (Region.before ops) i j=false->(jT listed i↔i<j):=by
  intro i mR gI;unfold loose at gI;simp only[Bool.not_eq_false',Bool.or_eq_true] at gI;rcases gI with q|q
  ·obtain⟨h1,h2,_⟩:=Yb i i j (Nat.le_refl _) q;exact⟨fun hd=>absurd (h2 hd) FT,fun e=>by omega⟩
  ·obtain⟨h1,_,h3⟩:=Yb j j i (Nat.le_refl _) q;exact⟨fun _=>h1,fun _=>h3 fun o' e kP hm hb=>by rw[ho] at kP;cases kP;exact WN e hm hb⟩
 have agv:∀i,loose (Region.before ops) i j=loose (Region.before ops) j i:=by intro i;unfold loose;rw[Bool.or_comm]
 have cutAt:∀(W:Nat->Prop),(∀i,i<ops.size->W i->i≠j->loose (Region.before ops) i j=false)->Cut ops.size W (jT listed) j:=by
  intro W hW;refine⟨Nat.le_of_lt A3,fun i hi hw=>?_⟩;by_cases e:i=j
  ·subst e;exact⟨fun hd=>absurd hd FT,fun q=>absurd q<|Nat.lt_irrefl _⟩
  ·exact ordered i e<|hW i hi hw e
 have VH:∀(W:Nat->Prop),(∀i,i<ops.size->W i->i≠j->loose (Region.before ops) i j=false)->Cut ops.size W (jT<|listed.setIfInBounds j true) (j+1):=by
  intro W hW;refine⟨A3,fun i hi hw=>?_⟩;rw[GO ak];by_cases e:i=j
  ·subst e;exact⟨fun _=>Nat.lt_succ_self _,fun _=>.inl rfl⟩
  ·have:=ordered i e<|hW i hi hw e;constructor
   ·rintro (q|q)
    ·exact absurd q e
    ·have:=this.1 q;omega
   ·intro q;exact .inr<|this.2 ak
 have VI:∀(W:Nat->Prop) (c:Nat),¬W j->Cut ops.size W (jT listed) c->Cut ops.size W (jT<|listed.setIfInBounds j true) c:=by
  intro W c hW Yc;refine⟨Yc.1,fun i hi hw=>?_⟩;rw[GO ak];have mR:i≠j:=by intro e;subst e;exact hW hw
  rw[←Yc.2 i hi hw];exact⟨fun q=>q.resolve_left mR,.inr⟩
 have VJ:∀i m,i<ops.size->i≠j->Wr i m->Rd j m->loose (Region.before ops) i j=false:=by
  intro i m hi mR hw hr;cases q:loose (Region.before ops) i j with
  |false=>rfl
  |true=>exact absurd hr<|x.apart i j m hi A3 mR q hw
 have anK:∀m,m<N j->m<top:=fun m hm=>Nat.lt_of_lt_of_le hm<|x.top j ak;have ahT:∀m,m<top->Rd j m->h.get m=(H j).get m:=by intro m hm hr;obtain⟨c,jL,wU⟩:=inv.heap m hm;rw[wU];exact JM (f:=fun c=>(H c).get m) (fun k hk hw=>x.m8 k m hk hw hm) jL<|cutAt _ fun i hi hw mR=>VJ i m hi mR hw hr
 have ahU:∀d∈o.looksAt ops,(T j).get d=t.get d:=by
  intro d hd;obtain⟨c,jL,wU⟩:=inv.EG d;rw[wU];refine JM (f:=fun c=>(T c).get d) (fun k hk hw=>?_) (cutAt _ ?_) jL
  ·have dq:ops[k]? =some ops[k]:=Array.getElem?_eq_getElem hk;exact x.slot k _ d dq fun e=>hw ⟨_,dq,e⟩
  ·rintro i hi ⟨y,hy,IB⟩ mR;exact A0.EG i j y o d mR hy ho IB<|.inl hd
 obtain⟨t1,c1,c2,c3,c4⟩:=x.again j o ho h ahT;obtain⟨v,v1,v2⟩:=Tp ahU c1;obtain⟨u1,Ry⟩:∃u1,jk nt t o.dst v=some u1:=by
  rcases DY v1 with⟨e,_⟩|⟨d,e,hd,_⟩
  ·rw[e];exact⟨t,rfl⟩
  ·rw[e];refine⟨t.put d<|some v,?_⟩;show @Bool.rec (fun _=>Option<|Tr AV) none (some<|t.put d<|some v) (Nat.blt d nt)=_;rw[zN,if_pos hd]
 have rj:=v2 u1 Ry;have hNj:N j<=N (j+1):=x.up j A3;have bH:dK (N j) (N<|j+1) ρ:=by
  intro m h1 h2 ju;have e0:v9 m=none:=ma m (Nat.le_trans (zW x (Nat.zero_le j) ak) h1) (Nat.lt_of_lt_of_le h2<|zW x A3<|Nat.le_refl _) ju;by_cases e:ρ m=v9 m
  ·rw[e];exact e0
  ·exfalso;obtain⟨i,hi,Rz,p1,p2⟩:=inv.new m ju e;have mR:i≠j:=by intro q;subst q;exact FT Rz
   rcases Nat.lt_or_ge i j with q|q
   ·have:=zW x (show i+1<=j from q) ak;omega
   ·have:=zW x (show j+1<=i from by omega) ak;omega
 have ay:At B ρ ⟨h,N j,N j,[],[]⟩ nt t w a:=⟨inv.tr,inv.rel,hg.mono inv.le,iX,⟨Nat.le_refl _,x.top j ak⟩⟩;obtain⟨σ,a',w',g1,g2,g3,g4,g5⟩:=UL hc hl ho ay (by rw[c2];exact bH) rj b k cs rest;rw[c2] at g1;refine⟨a',w',t1.h,u1,σ,⟨g2.rel,g2.tr,aw.le_trans inv.le g1.le,?_,?_,?_,inv.below.trans g4,g3.trans inv.defers,?_⟩,g5⟩
 ·intro m ju hm;by_cases e:ρ m=v9 m
  ·by_cases q:N j<=m/\m<N (j+1)
   ·exact⟨j,A3,(GO ak j).2<|.inl rfl,q.1,q.2⟩
   ·exact absurd ((g1.out m ju q).trans e) hm
  ·obtain⟨i,hi,Rz,p⟩:=inv.new m ju e;exact⟨i,hi,(GO ak i).2<|.inr Rz,p⟩
 ·intro m hm;by_cases q:Wr j m
  ·refine⟨j+1,VH _ fun i hi hw mR=>?_,c3 m q⟩;obtain⟨w1,w2⟩:=x.wrote j m A3 q;by_cases e:m<N j
   ·exact VJ i m hi mR hw<|w2 e
   ·obtain⟨y1,y2⟩:=x.wrote i m hi hw;have him:m<N i:=by
     rcases Nat.lt_or_ge i j with r|r
     ·have:=zW x (show i+1<=j from r) ak;omega
     ·have:=zW x (show j+1<=i from by omega) ak;omega
    cases yX:loose (Region.before ops) i j with
    |false=>rfl
    |true=>rw[agv] at yX;exact absurd (y2 him)<|x.apart j i m A3 hi (Ne.symm mR) yX q
  ·obtain⟨c,jL,wU⟩:=inv.heap m hm;exact⟨c,VI _ c q jL,(c4 m q hm).trans wU⟩
 ·intro d;by_cases q:o.dst=some d
  ·refine⟨j+1,VH _ fun i hi hw mR=>?_,?_⟩
   ·obtain⟨y,hy,IB⟩:=hw;exact A0.EG i j y o d mR hy ho IB<|.inr q
   ·rcases DY v1 with⟨e,_⟩|⟨d1,e,hd,e3⟩
    ·rw[e] at q;cases q
    ·rw[q] at e;cases e;rcases DY Ry with⟨e,_⟩|⟨d2,e,Ms,e4⟩
     ·rw[e] at q;cases q
     ·rw[q] at e;cases e;rw[e3,e4,Tr.lX _ _ _ _<|Nat.lt_of_lt_of_le hd iX,Tr.lX _ _ _ _<|Nat.lt_of_lt_of_le hd iX,if_pos rfl,if_pos rfl]
  ·obtain⟨c,jL,wU⟩:=inv.EG d;refine⟨c,VI _ c (fun hw=>?_) jL,?_⟩
   ·obtain⟨y,hy,IB⟩:=hw;rw[ho] at hy;cases hy;exact q IB
   ·rw[←wU];rcases DY Ry with⟨_,e⟩|⟨d2,e,Ms,e4⟩
    ·rw[e]
    ·rw[e4,Tr.lX _ _ _ _<|Nat.lt_of_lt_of_le Ms iX,if_neg (by intro r;subst r;exact q e)]
 ·intro j' o' e kP hd hm hb;rw[GO ak] at hd ⊢;rcases hd with rfl|hd
  ·rw[ho] at kP;cases kP;exact .inr<|WN e hm hb
  ·exact .inr<|inv.closed j' o' e kP hd hm hb
theorem NT(n i:Nat):¬jT (Array.replicate n false) i:=by
 unfold jT;rw[Array.getD_eq_getD_getElem?];by_cases h:i<n
 ·simp[h]
 ·simp[h]
theorem aa5(bU:P.follows .mixedOrders=true)(A0:Li ops)(hc:fR P B SG)(hl:∀t a,SF<|SG t a){id:Nat}{t1:Tr AV}{s s1:AS}(ay:At B ρ s nt t w a)(hf:dK s.nx s1.nx ρ)(h:qI P SG nt ops t s= .ok t1 s1)(b:Frame)(k:List Item)(cs:List Frame):
 Fi P B ρ s s1 nt t1 w a (lone (b.atR a<|.code (.region id ops true)::k) cs w) (fun a' w'=>lone (b.atR a' k) cs w'):=by
 obtain⟨⟨t',ms⟩,s',h1,h2⟩:=M.aR (show((nz P SG nt ops ops.toList 0 t).bind fun x=>aF (qQ (Region.before ops) x.2 x.2) <| M.pure x.1) s= .ok t1 s1 from h);obtain⟨h3,h4⟩:=cY h2;obtain⟨rfl,rfl⟩:=bI h4;obtain⟨f',H,N,T,Rd,Wr,a1,a2,a3,a4,a5,a6,x⟩:=aeH hl ay.nt ay.cG h1 h3;have ma:dK (N 0) (N ops.size) ρ:=by rw[a2,a5];exact hf
 let w1:World:={w with drawn:=w.drawn+1};have ajP:Rel B ρ s.h w1:=ay.rel.Fh<|gX.drew w;have ajQ:Inv B ops nt H N T Wr ρ w a (Array.replicate ops.size false) a w1 s.h t ρ:=by refine⟨ajP,ay.tr,aw.le_refl ρ,fun m _ hm=>absurd rfl hm,fun m _=>⟨0,⟨Nat.zero_le _,fun i _ _=>⟨fun q=>absurd q<|NT _ _,fun q=>absurd q<|Nat.not_lt_zero _⟩⟩,by rw[a1]⟩,fun d=>⟨0,⟨Nat.zero_le _,fun i _ _=>⟨fun q=>absurd q<|NT _ _,fun q=>absurd q<|Nat.not_lt_zero _⟩⟩,by rw[a3]⟩,(gX.drew w).below ay.rel.size,rfl,fun j o e _ q=>absurd q<|NT _ _⟩
 obtain⟨l',a',w',z1,z2,⟨h',t',gJ,inv⟩,z3⟩:=ach (P:=P) A0.Xn b k cs (fun listed a2 w2=>∃h' t' gJ,Inv B ops nt H N T Wr ρ w a listed a2 w2 h' t' gJ)
  (fun listed a2 w2 i o rest q1 ⟨h',t',gJ,inv⟩ q3 q4 q5=>by obtain⟨a3,w3,h3,t3,ρ3,i3,st⟩:=OF A0 x hc hl ay.nt ay.g ma q1 inv q3 q4 q5 b k cs rest;exact⟨a3,w3,⟨h3,t3,ρ3,i3⟩,st⟩)
  ops.size (w.tape w.drawn<|.order b.fn id) (Array.replicate ops.size false) a w1 jJ (adp _) ⟨s.h,t,ρ,ajQ⟩
 have all:∀(W:Nat->Prop),Cut ops.size W (jT l') ops.size:=fun W=>⟨Nat.le_refl _,fun i hi _=>⟨fun _=>hi,fun _=>z2 i hi⟩⟩;have ajR:∀m,m<top->s1.h.get m=h'.get m:=by intro m hm;obtain⟨c,c1,c2⟩:=inv.heap m hm;rw[c2, ←a4];exact JM (f:=fun c=>(H c).get m) (fun k hk hw=>x.m8 k m hk hw hm) (all _) c1
 have ajS:∀d,t'.get d=(T ops.size).get d:=by intro d;obtain⟨c,c1,c2⟩:=inv.EG d;rw[c2];refine JM (f:=fun c=>(T c).get d) (fun k hk hw=>?_) c1<|all _;have dq:ops[k]? =some ops[k]:=Array.getElem?_eq_getElem hk;exact x.slot k _ d dq fun e=>hw ⟨_,dq,e⟩
 refine⟨gJ,a',w',⟨inv.le,fun m ju hm=>?_⟩,⟨?_,inv.rel.congr ajR,ay.g.mono inv.le,ay.nt,f'⟩,inv.defers,inv.below,?_⟩
 ·by_cases e:gJ m=ρ m
  ·exact e
  ·exfalso;obtain⟨i,hi,_,p1,p2⟩:=inv.new m ju e;have q1:=zW x (Nat.zero_le i) ak;have q2:=zW x (show i+1<=ops.size from hi)<|Nat.le_refl _;exact hm ⟨by omega,by omega⟩
 ·rw[←a6];exact⟨inv.tr.1,fun i x hx=>inv.tr.2 i x (by rw[ajS i];exact hx)⟩
 ·refine .head stepR_region_draw ?_;simp only[Region.schedule,bU,Bool.true_or,if_true];exact z3
end
end Go.Rn
namespace Go.Rn
open Go.RowKit
variable {l bl N:Nat} {σ:aw} {r:Loop}
def Hd(ρ:aw):Option Nat->Option Nat->Prop
 |none,none=>True
 |some l,some b=>∃N,ρ l=some (b,N)
 |_,_=>False
theorem Hd.mono{ρ:aw}(h:ρ.le σ):∀{x y:Option Nat},Hd ρ x y->Hd σ x y
 |none,none,k=>k
 |some _,some _,⟨N,e⟩=>⟨N,h _ _ e⟩
 |none,some _,k=>k
 |some _,none,k=>k
def wy(ρ:aw):List Nat->List Deferred->Prop
 |[],l=>l=[]
 |d::ds,l=>∃b N r,l={target:=.collected b,args:= #[]}::r/\ρ d=some (b,N)/\wy ρ ds r
theorem wy.mono{ρ:aw}(h:ρ.le σ):∀{x:List Nat} {y:List Deferred},wy ρ x y->wy σ x y
 |[],_,k=>k
 |_::_,_,⟨b,N,r,e,a,d⟩=>⟨b,N,r,e,h _ _ a,d.mono h⟩
def bt.fr:bt->AF
 | .go fr=>fr
 | .leave fr _=>fr
def Leaves(j:Option Code)(todo:List Item):Prop:=
 match j with
 |none=>todo=[]
 |some .ret=>∃k,todo= .code .ret::k
 |some (.exit id)=>∃k,todo= .code (.exit id)::k/\exitTo id k=none
 |some (.goto l)=>∃k,todo= .code (.goto l)::k/\gotoIn l k=none
 |_=>False
def bt.ok:bt->Prop
 | .go _=>True
 | .leave fr j=>Leaves j fr.todo
theorem Leaves.code{j:Option Code}{todo:List Item}(h:Leaves j todo):∀c,j=some c->iD c:=by intro c e;subst e;cases c<;>first|trivial|cases h
structure Fr (ρ:aw) (af:AF) (b:Frame) (a:Act):Prop where
 fn:b.fn=af.fn
 kind:b.kind= .normal
 round:Hd ρ af.round b.roundOf
 defs:wy ρ af.defers a.defers
 ok:jB af.todo
def mf(P:Program)(B:aI)(ρ:aw)(s s1:AS)(w:World)(af:AF)(b:Frame)(cs:List Frame)(m:Machine)(x:bt):Prop:=∃σ a' w',Ext s.nx s1.nx ρ σ/\At B σ s1 af.nt x.fr.tmps w' a'/\wy σ x.fr.defers a'.defers/\cP B w w'/\(x.fr.fn=af.fn/\x.fr.nt=af.nt/\x.fr.round=af.round)/\jB x.fr.todo/\x.ok/\Steps P m (lone (b.atR a' x.fr.todo) cs w')
section
variable {P:Program} {B:aI} {ρ:aw} {w:World} {s s1:AS} {SG:aO} {b:Frame} {a:Act} {cs:List Frame}
theorem DH(hb:w.heap[l]? =some (.loop r)):(Instr.getLoop l).run P w= .ok r w:=by simp[Instr.getLoop,getObj,Sem.run,hb]
theorem Nc{o:Obj}(hb:w.heap[l]? =some (.loop r)):(setObj l o).run P w= .ok () {w with heap:=w.heap.setIfInBounds l o}:=by simp[setObj,Sem.run,hb]
theorem DL{o:ae}(h:getLoop l s= .ok o s1):bz l s= .ok o s1/\∃st bT fn t nt ps aa bb d,o= .loop st bT fn t nt ps aa bb d:=by
 unfold getLoop at h;obtain⟨o',s2,h1,h2⟩:=M.aR h;split at h2
 ·obtain⟨rfl,rfl⟩:=bI h2;exact⟨h1,_,_,_,_,_,_,_,_,_,rfl⟩
 ·cases h2
theorem OG{st br:LoopState}{bT Hy:Option Code}{fn nt d:Nat}{t:Tr AV}{ps:List Tmp}{aa bb:Code}{u:Unit}{s2:AS}(fi:bF s)(r:Rel B ρ s.h w)(hg:bz l s= .ok (.loop st bT fn t nt ps aa bb d) s2)(hl:ρ l=some (bl,N))(dq:∀c,Hy=some c->iD c)(h:bN l (some<|.loop br Hy fn t nt ps aa bb d) s2= .ok u s1):
 s1.nx=s.nx/\∃q:Loop,w.heap[bl]? =some (.loop q)/\q.state=st/\q.pending=bT/\q.fn=fn/\TR ρ nt t q.tmps/\q.params=ps.toArray/\q.assign=aa/\q.body=bb/\nt<=top/\G9 bT aa bb/\Rel B ρ s1.h {w with heap:=w.heap.setIfInBounds bl<|.loop {q with state:=br,pending:=Hy}}/\cP B w {w with heap:=w.heap.setIfInBounds bl<|.loop {q with state:=br,pending:=Hy}}:=by
 obtain⟨hx,kj,hh,cJ⟩:=fY hg;have ht:l<top:=Nat.lt_of_lt_of_le hx fi.nx;obtain⟨o',hb,hO,hB⟩:=r.block ht kj hl;obtain⟨ta,db,M,rfl,y8,iX,hd,gI⟩:=hO;obtain⟨_,_,_,e1,e2⟩:=jz h;obtain⟨g3,g4⟩:=DK (o':=.loop {state:=br,pending:=Hy,fn:=fn,tmps:=ta,params:=ps.toArray,assign:=aa,body:=bb,defers:=db}) hb;refine⟨by rw[e2,cJ],_,hb,rfl,rfl,rfl,y8,rfl,rfl,rfl,iX,gI,?_,g3.below<|hB rfl⟩;rw[e1,hh];exact r.put ht kj rfl rfl hl rfl g3 g4 ⟨ta,db,M,rfl,y8,iX,hd,dq,gI.assign,gI.body⟩
theorem SX{p:Option Code}(fi:bF s)(r:Rel B ρ s.h w)(hl:ρ l=some (bl,N))(h:lh l s= .ok p s1):
 s1.nx=s.nx/\(∀c,p=some c->iD c)/\∃w',(Instr.endLoop bl).run P w= .ok p w'/\Rel B ρ s1.h w'/\cP B w w':=by
 unfold lh at h;obtain⟨o,s2,h1,h2⟩:=M.aR h;obtain⟨h3,st,bT,fn,t,nt,ps,aa,bb,d,rfl⟩:=DL h1;obtain⟨h4,h5⟩:=cY h2;obtain⟨u,s3,h6,h7⟩:=M.aR h5;obtain⟨rfl,rfl⟩:=bI h7;have kj:=(fY h3);have dq:∀c,p=some c->iD c:=by obtain⟨o',hb,hO,_⟩:=r.block (Nat.lt_of_lt_of_le kj.1 fi.nx) kj.2.1 hl;obtain⟨_,_,_,_,_,_,_,gI⟩:=hO;exact gI.bT
 obtain⟨e1,q,e2,e3,e4,_,_,_,_,_,_,_,e5,e6⟩:=OG fi r h3 hl dq h6;refine⟨e1,dq,_,?_,e5,e6⟩;have cz:(q.state == LoopState.busy)=false:=by rw[e3];cases st<;>first|rfl|cases h4
 simp only[Instr.endLoop,Sem.run_bind,DH e2,Result.andThen_ok,cz,Bool.false_eq_true,if_false,Nc e2,Sem.run_pure,e4]
theorem aaa{g:Operand}{ps:Array Tmp}{assign body:Code}{k:List Item}{mark:List Deferred}{LR:World}{R:Value->World->Prop}(he:(Instr.enterLoop b.fn a.tmps ps assign body b.roundOf).run P w= .ok (l,mark) LR)(h:jo P ((do let d ←Deferred.ofValue (a.eval g) #[.func (.yield l) #[] #[]];invoke d.target d.args:Sem Next).run P LR) R):
 ∃v w',R v w'/\Steps P (lone (b.atR a<|.code (.rangeFunc g ps assign body)::k) cs w) (lone (b.atR {a with defers:=mark++a.defers}<|.endRangeFunc l::k) cs w'):=by
 have FV:=Frame.eval_atR b {a with defers:=mark++a.defers}<|.inRangeFunc l::k;simp only[Frame.atR] at FV;have kD:(do let d ←resolve ({tmps:=a.tmps,defers:=mark++a.defers}:Act).eval {callee:=.value g,args:= #[.const<|.func (.yield l) #[] #[]],argTypes:= #[]} 0;invoke d.target d.args:Sem Next)=
  (do let d ←Deferred.ofValue (a.eval g) #[.func (.yield l) #[] #[]];invoke d.target d.args:Sem Next):=by
  have e1:({tmps:=a.tmps,defers:=mark++a.defers}:Act).eval g=a.eval g:=by cases g<;>rfl
  have e2:(#[Operand.const<|Value.func (Fn.yield l) #[] #[]]:Array Operand).map ({tmps:=a.tmps,defers:=mark++a.defers}:Act).eval= #[Value.func (Fn.yield l) #[] #[]]:=by simp[Act.eval]
  simp only[resolve,e1,e2]
 generalize hr:(do let d ←Deferred.ofValue (a.eval g) #[.func (.yield l) #[] #[]];invoke d.target d.args:Sem Next).run P LR=res at h;rw[←kD] at hr;have Ln:stepG P true {frame:=b.atR a<|.code (.rangeFunc g ps assign body)::k,callers:=cs,status:=.running,dying:=none} w=
  GStep.after (seen P b.fn ((Instr.enterLoop b.fn a.tmps ps assign body b.roundOf).runT P w #[]).2) (stepG.apply P true (b.atR {a with defers:=mark++a.defers}<|.inRangeFunc l::k) cs none (do let d ←resolve ({tmps:=a.tmps,defers:=mark++a.defers}:Act).eval {callee:=.value g,args:= #[.const<|.func (.yield l) #[] #[]],argTypes:= #[]} 0;invoke d.target d.args) LR):=by
  simp only[stepG,stepG.exec,Frame.atR,Sem.runT_eq,he,FV]
 unfold jo at h;split at h
 ·rename_i v w';refine⟨v,w',h,.one<|step_lone_go ?_⟩;rw[Ln,GStep.bare_after, ←finish_atR_inRangeFunc l v];simp[stepG.apply,hr]
 ·rename_i w';refine⟨undef,w',h,.one<|step_lone_go ?_⟩;rw[Ln,GStep.bare_after, ←finish_atR_inRangeFunc l undef];simp[stepG.apply,hr]
 ·rename_i f args w';obtain⟨e,nJ,fr,⟨v,rfl,hR⟩,B4,ch,PG⟩:=h<|b.atR {a with defers:=mark++a.defers} (.inRangeFunc l::k)::cs;have B5:step P (lone (b.atR a<|.code (.rangeFunc g ps assign body)::k) cs w)= .next (lone (Frame.enter P f args .normal) (b.atR {a with defers:=mark++a.defers} (.inRangeFunc l::k)::cs) w'):=step_lone_go (by rw[Ln,GStep.bare_after];simp[stepG.apply,hr,Frame.atR])
  refine⟨v,nJ,hR,.head B5<|Steps.trans B4<|.one ?_⟩;rw[←finish_atR_inRangeFunc l v];exact step_leave_returned PG
 ·rename_i l' f tmps aeI ahV w';obtain⟨v,nJ,hR,B4⟩:=h (b.atR {a with defers:=mark++a.defers}<|.inRangeFunc l::k) cs;have B5:step P (lone (b.atR a<|.code (.rangeFunc g ps assign body)::k) cs w)= .next (lone (Frame.round l' f tmps aeI ahV .normal) (b.atR {a with defers:=mark++a.defers} (.inRangeFunc l::k)::cs) w'):=step_lone_go (by rw[Ln,GStep.bare_after];simp[stepG.apply,hr,Frame.atR])
  refine⟨v,nJ,hR,.head B5 ?_⟩;rw[←finish_atR_inRangeFunc l v];exact B4
 ·cases h
end
end Go.Rn
namespace Go.Rn
open Go.RowKit
variable {t:Tr AV} {ps:Array Tmp} {k:List Item} {body assign:Code} {af:AF} {x:bt} {nt fn:Nat}
section
variable {P:Program} {B:aI} {ρ:aw} {w:World} {s s1:AS} {SG:aO} {b:Frame} {a:Act} {cs:List Frame}
theorem DQ(bH:Fr ρ af b a)(ay:At B ρ s af.nt af.tmps w a)(h1:x.fr.tmps=af.tmps)(h2:x.fr.defers=af.defers)(h3:x.fr.fn=af.fn/\x.fr.nt=af.nt/\x.fr.round=af.round)(h4:jB x.fr.todo)(h5:x.ok)(h6:Steps P (lone (b.atR a af.todo) cs w)<|lone (b.atR a x.fr.todo) cs w):mf P B ρ s s w af b cs (lone (b.atR a af.todo) cs w) x:=⟨ρ,a,w,Ext.refl _ _ _,by rw[h1];exact ay,by rw[h2];exact bH.defs,cP.refl _ _,h3,h4,h5,h6⟩
theorem T6{fr:AF}(bH:Fr ρ af b a)(hx:fr={af with tmps:=t,todo:=k})(hk:jB k)(h:Fi P B ρ s s1 af.nt t w a (lone (b.atR a af.todo) cs w) fun a' w'=>lone (b.atR a' k) cs w'):mf P B ρ s s1 w af b cs (lone (b.atR a af.todo) cs w)<|.go fr:=by subst hx;obtain⟨σ,a',w',e1,e2,e3,e4,e5⟩:=h;exact⟨σ,a',w',e1,e2,by rw[e3];exact bH.defs.mono e1.le,e4,⟨rfl,rfl,rfl⟩,hk,trivial,e5⟩
theorem aeJ(ay:At B ρ s nt t w a)(h1:ρ s.nx=none)(h2:ρ (s.nx+1)=none)(l1:s.nx<top)(l2:s.nx+1<top)(gI:G9 none assign body):
 ∃σ,Ext s.nx (s.nx+2) ρ σ/\σ s.nx=some (w.heap.size,0)/\σ (s.nx+1)=some (w.heap.size+1,0)/\
  (Instr.enterLoop fn a.tmps ps assign body none).run P w= .ok (w.heap.size+1,[{target:=.collected w.heap.size,args:= #[]}]) {w with heap:=(w.heap.push<|.deferred<|some []).push<|.loop {state:=.ready,pending:=none,fn,tmps:=a.tmps,params:=ps,assign,body,defers:=w.heap.size}}/\
  Rel B σ ((s.h.put s.nx<|some .defs).put (s.nx+1)<|some<|.loop .ready none fn t nt ps.toList assign body s.nx) {w with heap:=(w.heap.push<|.deferred<|some []).push<|.loop {state:=.ready,pending:=none,fn,tmps:=a.tmps,params:=ps,assign,body,defers:=w.heap.size}}/\
  cP B w {w with heap:=(w.heap.push<|.deferred<|some []).push<|.loop {state:=.ready,pending:=none,fn,tmps:=a.tmps,params:=ps,assign,body,defers:=w.heap.size}}:=by
 have r1:=ay.rel.new (n:=s.nx) (o:=.defs) (o':=.deferred<|some []) (N:=0) l1 h1 rfl rfl;have uT:eR ρ s.nx (w.heap.size,0) (s.nx+1)=none:=by rw[gM ρ _ ak];exact h2
 have HT:ρ.le<|eR ρ s.nx (w.heap.size,0):=oP h1;have LU:(eR ρ s.nx (w.heap.size,0)).le<|eR (eR ρ s.nx (w.heap.size,0)) (s.nx+1) (w.heap.size+1,0):=oP uT;have lz:({w with heap:=w.heap.push<|.deferred<|some []}:World).heap.size=w.heap.size+1:=by simp
 have r2:=r1.new (n:=s.nx+1) (o:=.loop .ready none fn t nt ps.toList assign body s.nx) (o':=.loop {state:=.ready,pending:=none,fn,tmps:=a.tmps,params:=ps,assign,body,defers:=w.heap.size}) (N:=0) l2 uT rfl (by rw[lz];exact⟨a.tmps,w.heap.size,0,by simp,(ay.tr.mono HT).mono LU,ay.nt,LU _ _<|iQ _ _ _,gI⟩);rw[lz] at r2;refine⟨_,⟨aw.le_trans HT LU,fun k _ hk=>?_⟩,LU _ _<|iQ _ _ _,iQ _ _ _,?_,r2,?_⟩
 ·rw[gM _ _ ak,gM _ _ ak]
 ·simp only[Instr.enterLoop,Sem.run_bind,newObj,Sem.run,Result.andThen_ok,Sem.run_pure];simp
 ·exact((gX.alloc w _).trans<|gX.alloc _ _).below ay.rel.size
theorem aeK{l0 bl N:Nat}{st:LoopState}{bT:Option Code}{f0 FW d0:Nat}{t0:Tr AV}{FX:List Tmp}{a0 b0:Code}{s2:AS}(ay:At B ρ s nt t w a)(h1:ρ s.nx=none)(l1:s.nx<top)(gI:G9 none assign body)(hg:bz l0 s= .ok (.loop st bT f0 t0 FW FX a0 b0 d0) s2)(hl:ρ l0=some (bl,N)):
 ∃σ w',Ext s.nx (s.nx+1) ρ σ/\(∃bb M,σ s.nx=some (bb,M)/\(Instr.enterLoop fn a.tmps ps assign body<|some bl).run P w= .ok (bb,[]) w')/\Rel B σ (s.h.put s.nx<|some<|.loop .ready none fn t nt ps.toList assign body d0) w'/\cP B w w':=by
 obtain⟨hx,kj,hh,cJ⟩:=fY hg;have ht:l0<top:=Nat.lt_of_lt_of_le hx ay.cG.nx;obtain⟨o',hb,hO,hB⟩:=ay.rel.block ht kj hl;obtain⟨ta,db,M,rfl,y8,iX,hd,_⟩:=hO;have HT:ρ.le<|eR ρ s.nx (w.heap.size,0):=oP h1;have r1:=ay.rel.new (n:=s.nx) (o:=.loop .ready none fn t nt ps.toList assign body d0) (o':=.loop {state:=.ready,pending:=none,fn,tmps:=a.tmps,params:=ps,assign,body,defers:=db}) (N:=0) l1 h1 rfl ⟨a.tmps,db,M,by simp,ay.tr.mono HT,ay.nt,HT _ _ hd,gI⟩;refine⟨_,_,Ext.mP h1,⟨w.heap.size,0,iQ _ _ _,?_⟩,r1,(gX.alloc w _).below ay.rel.size⟩;simp only[Instr.enterLoop,Sem.run_bind,DH hb,Result.andThen_ok,Sem.run_pure,newObj,Sem.run]
theorem aab{p:Option Code}(hp:∀c,p=some c->iD c)(hk:jB k):jB<|andThen p k:=by
 cases p with
 |none=>exact hk
 |some c=>exact .cons (hp c rfl) hk
theorem Ts(p:Option Code)(k:List Item):(p.map Item.code).toList++k=andThen p k:=by cases p<;>rfl
theorem acj{f:Operand}(hc:fR P B SG)(hl:∀t a,SF<|SG t a)(bH:Fr ρ af b a)(ay:At B ρ s af.nt af.tmps w a)(hf:dK s.nx s1.nx ρ)(pa:af.todo= .code (.rangeFunc f ps assign body)::k)(h:vJ f ps.toList assign body SG af.fn af.tmps af.nt af.defers af.round k s= .ok x s1):mf P B ρ s s1 w af b cs (lone (b.atR a af.todo) cs w) x:=by
 have EO:iD assign/\iD body:=by have:=bH.ok;rw[pa] at this;exact this.head
 have gI:G9 none assign body:=⟨(fun c e=>by cases e),EO.1,EO.2⟩;have hk:jB k:=by have:=bH.ok;rw[pa] at this;exact this.tail
 unfold vJ at h;cases hr:af.round with
 |none=>
  rw[hr] at h;have nW:=bH.round;rw[hr] at nW;have IC:b.roundOf=none:=by
   cases e:b.roundOf with
   |none=>rfl
   |some _=>rw[e] at nW;cases nW
  obtain⟨df,s2,h1,h⟩:=M.aR h;obtain⟨l,s3,h2,h⟩:=M.aR h;obtain⟨g,h3,h⟩:=bw h;obtain⟨y,s4,h4,h⟩:=M.aR h;obtain⟨p,s5,h5,h⟩:=M.aR h;obtain⟨rfl,rfl⟩:=bI h;obtain⟨t1,rfl,rfl⟩:=vA h1;obtain⟨t2,rfl,rfl⟩:=vA h2;have jv:bF {s with h:=(s.h.put s.nx<|some .defs).put (s.nx+1)<|some<|.loop .ready none af.fn af.tmps af.nt ps.toList assign body s.nx,nx:=s.nx+1+1}:=⟨by have:=ay.cG.mark;show s.mark<=s.nx+1+1;omega,t2⟩;have C5:=(SF.ny hl _ _).le jv h4;have pB:=(SF.ny hl _ _).cG jv h4;have RA:=(SF.lh _).le pB h5;have QL:s.nx+2<=s4.nx:=C5;obtain⟨σ,e1,e2,e3,e4,e5,e6⟩:=aeJ (P:=P) (fn:=af.fn) (ps:=ps) ay (hf _ (Nat.le_refl _) ak ak) (hf _ ak ak ak) t1 t2 gI;have yY:VR σ g<|a.eval f:=(D9 ay.tr ay.g h3).mono e1.le;have ma:dK (s.nx+2) s4.nx σ:=(hf.sub (Nat.le_refl _) RA).next ak e1
  have Qj:=T2 (P:=P) hc (ay.g.mono e1.le) jv e5 ma yY (args:=[.yield<|s.nx+1]) (vs:= #[.func (.yield<|w.heap.size+1) #[] #[]]) (by simp only[az,VR];exact⟨_,_,rfl,⟨_,_,e3,rfl⟩,rfl⟩) h4;have HU:=(show(Instr.enterLoop b.fn a.tmps ps assign body b.roundOf).run P w=(Instr.enterLoop af.fn a.tmps ps assign body none).run P w by rw[bH.fn,IC]).trans e4;obtain⟨v,w',⟨τ,g1,g2,g3,g4⟩,st⟩:=aaa (cs:=cs) (k:=k) HU Qj;obtain⟨q1,q2,w5,q3,q4,q5⟩:=SX (P:=P) pB g3 (g1.le _ _ e3) h5;have ext:Ext s.nx s4.nx ρ τ:=e1.trans ak QL g1;refine⟨τ,{a with defers:=[{target:=.collected w.heap.size,args:= #[]}]++a.defers},w5,by rw[q1];exact ext,⟨ay.tr.mono ext.le,q4,ay.g.mono ext.le,ay.nt,(SF.lh _).cG pB h5⟩,?_,(e6.trans g4).trans q5,⟨rfl,rfl,hr.symm⟩,aab q2 hk,trivial,?_⟩
  ·exact⟨w.heap.size,0,a.defers,rfl,g1.le _ _ e2,bH.defs.mono ext.le⟩
  ·rw[pa];refine Steps.trans st<|.one ?_;rw[stepR_endRangeFunc q3,Ts];rfl
 |some l0=>
  rw[hr] at h;have nW:=bH.round;rw[hr] at nW;obtain⟨bl,IC,N0,RB⟩:∃bl,b.roundOf=some bl/\∃N,ρ l0=some (bl,N):=by
   cases e:b.roundOf with
   |none=>rw[e] at nW;cases nW
   |some bl=>rw[e] at nW;exact⟨bl,rfl,nW⟩
  obtain⟨ob,s2,h1,h⟩:=M.aR h;obtain⟨yT,st0,anL,f0,t0,FW,FX,a0,b0,d0,rfl⟩:=DL h1;obtain⟨l,s3,h2,h⟩:=M.aR h;obtain⟨g,h3,h⟩:=bw h;obtain⟨y,s4,h4,h⟩:=M.aR h;obtain⟨p,s5,h5,h⟩:=M.aR h;obtain⟨rfl,rfl⟩:=bI h;obtain⟨hx,kj,hh,cJ⟩:=fY yT;have dI:bF s2:=(SF.bz _).cG ay.cG yT;obtain⟨t2,rfl,rfl⟩:=vA h2;have jv:bF {s2 with h:=s2.h.put s2.nx<|some<|.loop .ready none af.fn af.tmps af.nt ps.toList assign body d0,nx:=s2.nx+1}:=⟨by have:=dI.mark;show s2.mark<=s2.nx+1;omega,t2⟩;have C5:=(SF.ny hl _ _).le jv h4;have pB:=(SF.ny hl _ _).cG jv h4;have RA:=(SF.lh _).le pB h5;have QL:s2.nx+1<=s4.nx:=C5;obtain⟨σ,w2,e1,⟨bb,M2,e3,e4⟩,e5,e6⟩:=aeK (P:=P) (fn:=af.fn) (ps:=ps) ay (hf _ (Nat.le_refl _) ak ak) (by rw[←cJ];omega) gI yT RB;rw[←hh, ←cJ] at e5;rw[←cJ] at e1 e3;have yY:VR σ g<|a.eval f:=(D9 ay.tr ay.g h3).mono e1.le;have ma:dK (s2.nx+1) s4.nx σ:=(show dK s2.nx s4.nx ρ by rw[cJ];exact hf.sub (Nat.le_refl _) RA).next ak e1
  have Qj:=T2 (P:=P) hc (ay.g.mono e1.le) jv e5 ma yY (args:=[.yield s2.nx]) (vs:= #[.func (.yield bb) #[] #[]]) (by simp only[az,VR];exact⟨_,_,rfl,⟨_,_,e3,rfl⟩,rfl⟩) h4;have HU:=(show(Instr.enterLoop b.fn a.tmps ps assign body b.roundOf).run P w=(Instr.enterLoop af.fn a.tmps ps assign body<|some bl).run P w by rw[bH.fn,IC]).trans e4;obtain⟨v,w',⟨τ,g1,g2,g3,g4⟩,st⟩:=aaa (cs:=cs) (k:=k) HU Qj;obtain⟨q1,q2,w5,q3,q4,q5⟩:=SX (P:=P) pB g3 (g1.le _ _ e3) h5;have ext:Ext s.nx s4.nx ρ τ:=by rw[←cJ];exact e1.trans ak QL g1
  refine⟨τ,{a with defers:=[]++a.defers},w5,by rw[q1];exact ext,⟨ay.tr.mono ext.le,q4,ay.g.mono ext.le,ay.nt,(SF.lh _).cG pB h5⟩,?_,(e6.trans g4).trans q5,⟨rfl,rfl,hr.symm⟩,aab q2 hk,trivial,?_⟩
  ·exact bH.defs.mono ext.le
  ·rw[pa];refine Steps.trans st<|.one ?_;rw[stepR_endRangeFunc q3,Ts];rfl
end
end Go.Rn
namespace Go.Rn
open Go.RowKit
variable {x:bt} {s2:AS} {k:List Item} {c:Code} {af:AF}
theorem aaB{P:Program}{b:Frame}{a:Act}{cs:List Frame}{w:World}:step P (lone (b.atR a<|.inScope c::k) cs w)= .next (lone (b.atR a k) cs w):=step_lone_go (by simp[stepG,stepG.exec,Frame.atR])
theorem aa6{P:Program}{b:Frame}{a:Act}{cs:List Frame}{w:World}:step P (lone (b.atR a<|.code (.scope c)::k) cs w)= .next (lone (b.atR a<|.code c:: .inScope c::k) cs w):=step_lone_go (by simp[stepG,stepG.exec,Frame.atR])
section
variable {P:Program} {B:aI} {ρ:aw} {w:World} {s s1:AS} {SG:aO} {b:Frame} {a:Act} {cs:List Frame}
theorem ack{l bl N:Nat}{bT:Option Code}{f0 FW d0:Nat}{t0:Tr AV}{FX:List Tmp}{a0 b0:Code}{u:Unit}(fi:bF s)(r:Rel B ρ s.h w)(hl:ρ l=some (bl,N))(hg:bz l s= .ok (.loop .ready bT f0 t0 FW FX a0 b0 d0) s2)(h:bN l (some<|.loop .busy bT f0 t0 FW FX a0 b0 d0) s2= .ok u s1):
 s1.nx=s.nx/\∃w',(Instr.beginRound bl).run P w= .ok () w'/\Rel B ρ s1.h w'/\cP B w w':=by
 have kj:=fY hg;have dq:∀c,bT=some c->iD c:=by obtain⟨o',hb,hO,_⟩:=r.block (Nat.lt_of_lt_of_le kj.1 fi.nx) kj.2.1 hl;obtain⟨_,_,_,_,_,_,_,gI⟩:=hO;exact gI.bT
 obtain⟨e1,q,e2,e3,e4,_,_,_,_,_,_,_,e5,e6⟩:=OG fi r hg hl dq h;refine⟨e1,_,?_,e5,e6⟩;subst e4;simp only[Instr.beginRound,Sem.run_bind,DH e2,Result.andThen_ok,Nc e2,e3,Sem.run_pure]
theorem Gt(bU:P.follows .mixedOrders=true)(hc:fR P B SG)(hl:∀t a,SF<|SG t a)(bH:Fr ρ af b a)(ay:At B ρ s af.nt af.tmps w a)(hf:dK s.nx s1.nx ρ)(h:jg P SG af s= .ok x s1):mf P B ρ s s1 w af b cs (lone (b.atR a af.todo) cs w) x:=by
 obtain⟨fn,t,nt,todo,d,r⟩:=af;cases todo with
 |nil=>obtain⟨rfl,rfl⟩:=bI (show M.pure (.leave ⟨fn,t,nt,[],d,r⟩ none) s= .ok x s1 from h);exact DQ bH ay rfl rfl ⟨rfl,rfl,rfl⟩ .nil rfl<|Steps.refl _ _
 |cons it k=>
  have hk:jB k:=bH.ok.tail;have qz:Kr it:=bH.ok.head;have h':(v8 P it).val SG fn t nt d r k s= .ok x s1:=h;have calm:∀(l:List Item),jB l->M.pure (.go ⟨fn,t,nt,l,d,r⟩) s= .ok x s1->step P (lone (b.atR a<|it::k) cs w)= .next (lone (b.atR a l) cs w)->mf P B ρ s s1 w ⟨fn,t,nt,it::k,d,r⟩ b cs (lone (b.atR a<|it::k) cs w) x:=by intro l ni hp hs;obtain⟨rfl,rfl⟩:=bI hp;exact DQ bH ay rfl rfl ⟨rfl,rfl,rfl⟩ ni trivial<|.one hs
  cases it with
  |code c=>
   cases c with
   |skip=>exact calm k hk h' stepR_skip
   |label l=>exact calm k hk h' stepR_label
   |seq p q=>exact calm (.code p:: .code q::k) (.cons qz.1<|.cons qz.2 hk) h' stepR_seq
   |cond c p q=>
    obtain⟨v,h1,h2⟩:=bw (show(aC (aK t c) fun v=>aC (xW v) fun v=>M.pure<|.go ⟨fn,t,nt,.code (@Bool.rec (fun _=>Code) q p v)::k,d,r⟩) s= .ok x s1 from h');obtain⟨y,h3,h4⟩:=bw h2;have hv:=(D9 ay.tr ay.g h1).UJ h3;cases y with
    |true=>exact calm (.code p::k) (.cons qz.1 hk) h4<|stepR_cond hv
    |false=>exact calm (.code q::k) (.cons qz.2 hk) h4<|stepR_cond hv
   |block id c=>exact calm (.code c:: .inBlock id::k) (.cons qz<|.cons trivial hk) h' stepR_block
   |loop c=>exact calm (.code c:: .inLoop c::k) (.cons qz<|.cons qz hk) h' stepR_loop
   |scope c=>exact calm (.code c:: .inScope c::k) (.cons qz<|.cons qz hk) h' aa6
   |exit id=>
    have h2:EK id SG fn t nt d r k s= .ok x s1:=h';unfold EK at h2;cases e:exitTo id k with
    |some k'=>rw[e] at h2;exact calm k' (NM e hk) h2<|stepR_exit e
    |none=>rw[e] at h2;obtain⟨rfl,rfl⟩:=bI h2;exact DQ bH ay rfl rfl ⟨rfl,rfl,rfl⟩ bH.ok ⟨k,rfl,e⟩<|Steps.refl _ _
   |goto l=>
    have h2:EL l SG fn t nt d r k s= .ok x s1:=h';unfold EL at h2;cases e:gotoIn l k with
    |some k'=>rw[e] at h2;exact calm k' (NN e hk) h2<|stepR_goto e
    |none=>rw[e] at h2;obtain⟨rfl,rfl⟩:=bI h2;exact DQ bH ay rfl rfl ⟨rfl,rfl,rfl⟩ bH.ok ⟨k,rfl,e⟩<|Steps.refl _ _
   |ret=>obtain⟨rfl,rfl⟩:=bI (show M.pure (.leave ⟨fn,t,nt,.code .ret::k,d,r⟩<|some .ret) s= .ok x s1 from h');exact DQ bH ay rfl rfl ⟨rfl,rfl,rfl⟩ bH.ok ⟨k,rfl⟩<|Steps.refl _ _
   |region id ops draw=>
    cases draw with
    |false=>obtain⟨t1,s2,h1,h2⟩:=M.aR (show((jl P SG nt ops ops.toList t).bind fun t=>M.pure<|.go ⟨fn,t,nt,k,d,r⟩) s= .ok x s1 from h');obtain⟨rfl,rfl⟩:=bI h2;exact T6 bH rfl hk<|abw hc hl ay hf h1 b k cs
    |true=>obtain⟨t1,s2,h1,h2⟩:=M.aR (show((qI P SG nt ops t).bind fun t=>M.pure<|.go ⟨fn,t,nt,k,d,r⟩) s= .ok x s1 from h');obtain⟨rfl,rfl⟩:=bI h2;exact T6 bH rfl hk<|aa5 bU (qz rfl) hc hl ay hf h1 b k cs
   |rangeFunc f ps p q=>exact acj hc hl bH ay hf rfl h'
   |refuse gy=>cases h'
  |inBlock id=>exact calm k hk h' stepR_inBlock
  |inScope c=>exact calm k hk h' aaB
  |inLoop c=>exact calm (.code c:: .inLoop c::k) (.cons qz<|.cons qz hk) h' stepR_inLoop
  |beginRound=>
   have h2:zU SG fn t nt d r k s= .ok x s1:=h';unfold zU at h2;cases r with
   |none=>cases h2
   |some l=>
    obtain⟨bl,IC,N0,RB⟩:∃bl,b.roundOf=some bl/\∃N,ρ l=some (bl,N):=by
     have nW:=bH.round;cases e:b.roundOf with
     |none=>rw[e] at nW;cases nW
     |some bl=>rw[e] at nW;exact⟨bl,rfl,nW⟩
    obtain⟨o,s2,h3,h4⟩:=M.aR h2;obtain⟨h5,st,bT,f0,t0,FW,FX,a0,b0,d0,rfl⟩:=DL h3;cases st<;>first|(cases h4;done)|skip
    obtain⟨u,s3,h6,h7⟩:=M.aR h4;obtain⟨rfl,rfl⟩:=bI h7;obtain⟨e1,w',e2,e3,e4⟩:=ack (P:=P) ay.cG ay.rel RB h5 h6;have dI:bF s1:=(SF.bN _ _).cG ((SF.bz _).cG ay.cG h5) h6;exact⟨ρ,a,w',by rw[e1];exact Ext.refl _ _ _,⟨ay.tr,e3,ay.g,ay.nt,dI⟩,bH.defs,e4,⟨rfl,rfl,rfl⟩,hk,trivial,.one<|stepR_beginRound IC e2⟩
  |_=>cases h'
theorem mf.Lo{fr:AF}{m:Machine}(bH:Fr ρ af b a)(h:mf P B ρ s s2 w af b cs m<|.go fr)(ly:s.nx<=s2.nx)(qy:s2.nx<=s1.nx)(k:∀(σ:aw) (a':Act) (w':World),Ext s.nx s2.nx ρ σ->Fr σ fr b a'->At B σ s2 fr.nt fr.tmps w' a'->mf P B σ s2 s1 w' fr b cs (lone (b.atR a' fr.todo) cs w') x):mf P B ρ s s1 w af b cs m x:=by obtain⟨σ,a',w',e1,e2,e3,e4,⟨e5,e6,e7⟩,e8,_,e9⟩:=h;have iY:fr.nt=af.nt:=e6;obtain⟨τ,Iz,nJ,f1,f2,f3,f4,⟨f5,f6,f7⟩,f8,f9,f10⟩:=k σ a' w' e1 ⟨bH.fn.trans e5.symm,bH.kind,by have:=bH.round.mono e1.le;rw[←e7] at this;exact this,e3,e8⟩ (by rw[iY];exact e2);exact⟨τ,Iz,nJ,e1.trans ly qy f1,by rw[iY] at f2;exact f2,f3,e4.trans f4,⟨f5.trans e5,f6.trans e6,f7.trans e7⟩,f8,f9,Steps.trans e9 f10⟩
theorem Gu(bU:P.follows .mixedOrders=true)(hc:fR P B SG)(hl:∀t a,SF<|SG t a):∀(n:Nat) {ρ:aw} {w:World} {s s1:AS} {a:Act} {af:AF} {x:bt},Fr ρ af b a->At B ρ s af.nt af.tmps w a->dK s.nx s1.nx ρ->
 nY P SG n af s= .ok x s1->mf P B ρ s s1 w af b cs (lone (b.atR a af.todo) cs w) x
 |0,ρ,w,s,s1,a,af,x,bH,ay,hf,h=>Gt bU hc hl bH ay hf h
 |n+1,ρ,w,s,s1,a,af,x,bH,ay,hf,h=>by
  obtain⟨y,s2,h1,h2⟩:=M.aR (show((nY P SG n af).bind fun x=> @bt.rec (fun _=>M bt) (nY P SG n) (fun fr j=>M.pure<|.leave fr j) x) s= .ok x s1 from h);have ly:=(SF.nY P hl n af).le ay.cG h1;have dI:=(SF.nY P hl n af).cG ay.cG h1;cases y with
  |go fr=>have sU:nY P SG n fr s2= .ok x s1:=h2;have qy:=(SF.nY P hl n fr).le dI sU;have w1:=Gu bU hc hl n bH ay (hf.sub (Nat.le_refl _) qy) h1;exact w1.Lo bH ly qy fun σ a' w' e1 Cz CA=>Gu bU hc hl n Cz CA (hf.next ly e1) sU
  |leave fr j=>obtain⟨rfl,rfl⟩:=bI (show M.pure (.leave fr j) s2= .ok x s1 from h2);exact Gu bU hc hl n bH ay hf h1
theorem NU(bU:P.follows .mixedOrders=true)(hc:fR P B SG)(hl:∀t a,SF<|SG t a):∀(n k:Nat) {ρ:aw} {w:World} {s s1:AS} {a:Act} {af:AF} {x:bt},Fr ρ af b a->At B ρ s af.nt af.tmps w a->dK s.nx s1.nx ρ->
 qR P SG n k af s= .ok x s1->mf P B ρ s s1 w af b cs (lone (b.atR a af.todo) cs w) x
 |0,k,ρ,w,s,s1,a,af,x,bH,ay,hf,h=>by cases h
 |n+1,k,ρ,w,s,s1,a,af,x,bH,ay,hf,h=>by
  obtain⟨y,s2,h1,h2⟩:=M.aR (show((nY P SG k af).bind fun x=> @bt.rec (fun _=>M bt) (fun fr=>qR P SG n (Nat.succ k) fr) (fun fr j=>M.pure<|.leave fr j) x) s= .ok x s1 from h);have ly:=(SF.nY P hl k af).le ay.cG h1;have dI:=(SF.nY P hl k af).cG ay.cG h1;cases y with
  |go fr=>have sU:qR P SG n (k+1) fr s2= .ok x s1:=h2;have qy:=(SF.qR P hl n (k+1) fr).le dI sU;have w1:=Gu (b:=b) (cs:=cs) bU hc hl k bH ay (hf.sub (Nat.le_refl _) qy) h1;exact w1.Lo bH ly qy fun σ a' w' e1 Cz CA=>NU bU hc hl n (k+1) Cz CA (hf.next ly e1) sU
  |leave fr j=>obtain⟨rfl,rfl⟩:=bI (show M.pure (.leave fr j) s2= .ok x s1 from h2);exact Gu bU hc hl k bH ay hf h1
end
end Go.Rn
namespace Go.Rn
open Go.RowKit
variable {x:AV} {l bl N:Nat}
section
variable {P:Program} {B:aI} {ρ:aw} {w:World} {s s1:AS} {SG:aO}
theorem Nh{nt:Nat}(iX:nt<=top):∀{ps:List Tmp} {args:List AV} {vs:List Value} {t:Tr AV} {arr:Array Value},TR ρ nt t arr->az ρ args vs->(∀p∈ps,p<nt)->
 TR ρ nt (je ps args t) ((ps.zip vs).foldl (fun tmps (t,a)=>tmps.setIfInBounds t a) arr)
 |[],args,vs,t,arr,h,_,_=>by simpa[je] using h
 |p::ps,[],vs,t,arr,h,hv,_=>by simp only[az] at hv;subst hv;simpa[je] using h
 |p::ps,v::args,vs,t,arr,h,hv,hp=>by simp only[az] at hv;obtain⟨u,us,rfl,h1,h2⟩:=hv;simp only[je,List.zip_cons_cons,List.foldl_cons];exact Nh iX (h.set (hp p List.mem_cons_self) iX h1) h2 fun q hq=>hp q<|List.mem_cons_of_mem _ hq
theorem SY{j:Option Code}(fi:bF s)(r:Rel B ρ s.h w)(hl:ρ l=some (bl,N))(hj:∀c,j=some c->iD c)(h:endRound l j s= .ok x s1):
 s1.nx=s.nx/\x= .bool j.isNone/\∃w',(Instr.endRound bl j).run P w= .ok (.bool j.isNone) w'/\Rel B ρ s1.h w'/\cP B w w':=by
 unfold endRound at h;obtain⟨o,s2,h1,h2⟩:=M.aR h;obtain⟨h3,st,bT,fn,t,nt,ps,aa,bb,d,rfl⟩:=DL h1;obtain⟨u,s3,h4,h5⟩:=M.aR h2;obtain⟨rfl,rfl⟩:=bI h5;obtain⟨e1,q,e2,e3,e4,_,_,_,_,_,_,_,e5,e6⟩:=OG fi r h3 hl hj h4;refine⟨e1,rfl,_,?_,e5,e6⟩;cases j<;>simp only[Instr.endRound,Sem.run_bind,DH e2,Result.andThen_ok,Nc e2,Sem.run_pure]<;>rfl
theorem acm(bU:P.follows .mixedOrders=true)(hc:fR P B SG)(hl:∀t a,SF<|SG t a){args:List AV}{vs:Array Value}(fi:bF s)(r:Rel B ρ s.h w)(hg:gk ρ)(hf:dK s.nx s1.nx ρ)(h:BD P SG l args s= .ok x s1)(hv:az ρ args vs.toList)(C6:ρ l=some (bl,N)):jo P ((Instr.yield bl vs).run P w)<|ki B ρ s s1 w x:=by
 unfold BD at h;obtain⟨o,s2,h1,h2⟩:=M.aR h;obtain⟨h3,st,bT,fn,t,nt,ps,aa,bb,d,rfl⟩:=DL h1;obtain⟨h4,h5⟩:=cY h2;obtain⟨y,s3,h6,h7⟩:=M.aR h5;obtain⟨q1,q2⟩:=and_true.1 h4;have hlen:=eB.1 q1;have RC:∀p∈ps,p<nt:=fun p hp=>by have:=List.all_eq_true.1 q2 p hp;rw[←blt_eq];exact this
 obtain⟨hx,kj,hh,cJ⟩:=fY h3;have dI:bF s2:=(SF.bz _).cG fi h3;have cF:l<top:=Nat.lt_of_lt_of_le hx fi.nx;obtain⟨o',hb,hO,hB⟩:=r.block cF kj C6;obtain⟨ta,db,M,rfl,y8,iX,hd,gI⟩:=hO;have PH:(Instr.yield bl vs).run P w= .ok (.round bl fn ((ps.zip vs.toList).foldl (fun tmps (t,a)=>tmps.setIfInBounds t a) ta) aa bb) w:=by
  have lz:¬(vs.size≠ps.toArray.size):=by have:=hv.length;simp at this ⊢;omega
  simp only[Instr.yield,Sem.run_bind,DH hb,Result.andThen_ok,if_neg lz,Sem.run_pure];rw[←Array.foldl_toList];simp
 rw[PH];intro c cs;cases y with
 |go fr=>cases h7
 |leave fr j=>
  have C3:endRound l j s3= .ok x s1:=h7;let b:Frame:={(default:Frame) with fn:=fn,kind:=.normal,roundOf:=some bl};let a:Act:={tmps:=(ps.zip vs.toList).foldl (fun tmps (t,a)=>tmps.setIfInBounds t a) ta,defers:=[]};have qy:=(SF.qR P hl depth 2 ⟨fn,je ps args t,nt,[.code aa,.beginRound,.code bb],[],some l⟩).le dI h6;have jv:=(SF.qR P hl depth 2 ⟨fn,je ps args t,nt,[.code aa,.beginRound,.code bb],[],some l⟩).cG dI h6;have C7:=(SF.endRound l j).le jv C3;have bH:Fr ρ ⟨fn,je ps args t,nt,[.code aa,.beginRound,.code bb],[],some l⟩ b a:=⟨rfl,rfl,⟨N,C6⟩,rfl,.cons gI.assign<|.cons trivial<|.cons gI.body .nil⟩;have ay:At B ρ s2 nt (je ps args t) w a:=⟨Nh iX y8 hv RC,by rw[hh];exact r,hg,iX,dI⟩;obtain⟨σ,a',w',e1,e2,e3,e4,_,_,e6,e7⟩:=NU (cs:=c::cs) bU hc hl depth 2 bH ay (by rw[cJ];exact hf.sub (Nat.le_refl _) C7) h6;have iY:Leaves j fr.todo:=e6;obtain⟨f1,rfl,nJ,f2,f3,f4⟩:=SY (P:=P) jv e2.rel (e1.le _ _ C6) iY.code C3;refine⟨.bool j.isNone,nJ,⟨σ,by rw[f1, ←cJ];exact e1,by simp only[VR],f3,e4.trans f4⟩,?_⟩;have ya:Frame.round bl fn ((ps.zip vs.toList).foldl (fun tmps (t,a)=>tmps.setIfInBounds t a) ta) aa bb .normal=b.atR a [.code aa,.beginRound,.code bb]:=rfl;rw[ya];refine Steps.trans e7<|.one ?_;show step P (lone (b.atR a' fr.todo) (c::cs) w')=_;unfold Leaves at iY;split at iY
  ·rw[iY];exact stepR_round_end rfl rfl f2
  ·obtain⟨k,e⟩:=iY;rw[e];exact stepR_round_ret rfl rfl f2
  ·obtain⟨k,e,e'⟩:=iY;rw[e];exact stepR_round_exit rfl rfl e' f2
  ·obtain⟨k,e,e'⟩:=iY;rw[e];exact stepR_round_goto rfl rfl e' f2
  ·cases iY
theorem aaN{nt:Nat}{t:Tr AV}{tmps:Array Value}{rv:ResultVar}(ht:TR ρ nt t tmps)(fi:bF s)(r:Rel B ρ s.h w)(h:BC P t rv s= .ok x s1):
 s1.h=s.h/\s1.nx=s.nx/\bF s1/\∃v,(match rv with| .tmp t=>pure (tmps.getD t undef)| .cell a t=>do Go.loadVar t (←asAddr (tmps.getD a undef)):Sem Value).run P w= .ok v w/\VR ρ x v:=by
 cases rv with
 |tmp i=>obtain⟨hx,rfl⟩:=gT (show lift (t.get i) s= .ok x s1 from h);exact⟨rfl,rfl,fi,_,rfl,ht.2 i x hx⟩
 |cell a ty=>
  obtain⟨ad,s2,h1,h2⟩:=M.aR (show((lift (match t.get a with|some x=>addrOf x|none=>none)).bind fun a=>Rn.loadVar P ty a.1 a.2) s= .ok x s1 from h);obtain⟨h3,hs⟩:=gT h1;subst hs;cases RD:t.get a with
  |none=>rw[RD] at h3;cases h3
  |some xa=>
  rw[RD] at h3;obtain⟨b,N,h4,h5⟩:=(ht.2 a xa RD).OB h3;obtain⟨a1,a2,v,a3,a4⟩:=S3 (P:=P) fi r h2 h4;exact⟨a1,a2,(SF.loadVar P ty _ _).cG fi h2,v,by simp[h5,asAddr,a3],a4⟩
theorem Jb{nt:Nat}{t:Tr AV}{tmps:Array Value}(ht:TR ρ nt t tmps):∀{l:List ResultVar} {vs:List AV} {s s1:AS},bF s->Rel B ρ s.h w->tM P t l s= .ok vs s1->
 s1.h=s.h/\s1.nx=s.nx/\∃us,(l.mapM fun| .tmp t=>pure (tmps.getD t undef)| .cell a t=>do Go.loadVar t (←asAddr (tmps.getD a undef)):Sem<|List Value).run P w= .ok us w/\az ρ vs us
 |[],vs,s,s1,fi,r,h=>by obtain⟨rfl,rfl⟩:=bI (show M.pure [] s= .ok vs s1 from h);exact⟨rfl,rfl,[],rfl,by simp[az]⟩
 |rv::l,vs,s,s1,fi,r,h=>by
  obtain⟨v,s2,h1,h2⟩:=M.aR (show((BC P t rv).bind fun v=>(tM P t l).bind fun vs=>M.pure<|v::vs) s= .ok vs s1 from h);obtain⟨us,s3,h3,h4⟩:=M.aR h2;obtain⟨rfl,rfl⟩:=bI h4;obtain⟨a1,a2,a3,u,a4,a5⟩:=aaN ht fi r h1;obtain⟨b1,b2,Mu,b3,b4⟩:=Jb ht a3 (by rw[a1];exact r) h3;refine⟨b1.trans a1,b2.trans a2,u::Mu,?_,?_⟩
  ·rw[List.mapM_cons];simp only[Sem.run_bind,a4,Result.andThen_ok,b3,Sem.run_pure]
  ·simp only[az];exact⟨u,Mu,rfl,a5,b4⟩
theorem Je{fr:Frame}{cs:List Frame}:∀{l:List Nat} {ds:List Deferred} {s s1:AS} {w:World} {u:Unit},bF s->Rel B ρ s.h w->wy ρ l ds->rU l s= .ok u s1->
 s1.nx=s.nx/\bF s1/\∃w',Rel B ρ s1.h w'/\cP B w w'/\∀(fr:Frame) (cs:List Frame),fr.mode≠ .run->fr.defers=ds->Steps P (lone fr cs w) (lone {fr with defers:=[]} cs w')
 |[],ds,s,s1,w,u,fi,r,hd,h=>by obtain⟨_,rfl⟩:=bI (show M.pure () s= .ok u s1 from h);have Ms:ds=[]:=hd;subst Ms;exact⟨rfl,fi,w,r,cP.refl _ _,fun fr cs _ e=>by rw[←e];exact Steps.refl _ _⟩
 |d::l,ds,s,s1,w,u,fi,r,hd,h=>by
  obtain⟨b,N,ds',rfl,hn,hds⟩:=hd;obtain⟨o,s2,h1,h2⟩:=M.aR (show((bz d).bind fun o=>match o with| .defs=>(bN d none).bind fun _=>rU l|_=>fail) s= .ok u s1 from h);obtain⟨hx,kj,hh,cJ⟩:=fY h1;have dI:=(SF.bz d).cG fi h1;have cF:d<top:=Nat.lt_of_lt_of_le hx fi.nx;obtain⟨o',hb,hO,hB⟩:=r.block cF kj hn;cases o with
  |defs=>
   obtain⟨u2,s3,h3,h4⟩:=M.aR h2;have jv:=(SF.bN d none).cG dI h3;obtain⟨_,_,_,i1,i2⟩:=jz h3;have hO':o'= .deferred (some []):=hO;subst hO';obtain⟨g3,g4⟩:=DK (o':=.deferred none) hb;obtain⟨k1,_⟩:=r.WK cF kj rfl rfl hn g3;obtain⟨e1,e2,w',e3,e4,e5⟩:=Je (fr:=fr) (cs:=cs) jv (by rw[i1,hh];exact k1) hds h4;refine⟨by rw[e1,i2,cJ],e2,w',e3,(g3.below<|hB rfl).trans e4,fun fr cs hm hdf=>?_⟩;have ahW:(Instr.takeDeferred b).run P w= .ok [] {w with heap:=w.heap.setIfInBounds b<|.deferred none}:=by simp[Instr.takeDeferred,getObj,setObj,Sem.run,hb]
   have hs:=step_collected (P:=P) (cs:=cs) hm hdf rfl ahW;exact .head hs<|e5 {fr with defers:=[]++ds'} cs hm rfl
  |_=>cases h2
end
end Go.Rn
namespace Go.Rn
open Go.RowKit
theorem T7{ρ:aw}{e:MapEntry}:∀{left:List<|AV×AV} {l:List MapEntry},dX ρ left l->e∈l->
 ∃x r l',(x,r)∈yn left/\VR ρ x.1 e.key/\VR ρ x.2 e.val/\dX ρ r l'/\l.Perm (e::l')
 |[],l,h,he=>by simp only[dX] at h;subst h;cases he
 |y::ys,l,h,he=>by
  simp only[dX] at h;obtain⟨e0,es,rfl,h1,h2,h3⟩:=h;rcases List.mem_cons.1 he with rfl|he
  ·exact⟨y,ys,es,by simp[yn],h1,h2,h3,List.Perm.refl _⟩
  ·obtain⟨x,r,l',k1,k2,k3,k4,k5⟩:=T7 h3 he;refine⟨x,y::r,e0::l',?_,k2,k3,?_,?_⟩
   ·simp only[yn,List.mem_cons,List.mem_map];exact .inr ⟨(x,r),k1,rfl⟩
   ·simp only[dX];exact⟨e0,l',rfl,h1,h2,k4⟩
   ·exact(List.Perm.cons e0 k5).trans<|List.Perm.swap e e0 l'
theorem dX.aeL{ρ:aw}{left:List<|AV×AV}(h:dX ρ left []):left=[]:=by
 cases left with
 |nil=>rfl
 |cons x xs=>simp only[dX] at h;obtain⟨e,es,h,_⟩:=h;cases h
section
variable {P:Program} {B:aI} {ρ:aw} {w w':World} {h:Tr ae} {n m:Nat} {es left iK:List<|AV×AV} {ex:Bool} {cur iL:Option<|AV×AV} {b N:Nat}
theorem Tt{w1:World}{o:Obj}(hw:w1=w\/w1=w.drew):x8 b w<|ChangeMaps.setBlock w1 b o:=by
 have h1:(ChangeMaps.setBlock w1 b o).heap=w.heap.setIfInBounds b o:=by rcases hw with rfl|rfl<;>rfl
 refine⟨?_,?_,?_,by rw[h1];simp,fun k hk=>?_⟩
 ·rcases hw with rfl|rfl<;>rfl
 ·rcases hw with rfl|rfl<;>rfl
 ·rcases hw with rfl|rfl<;>rfl
 ·rw[h1,Array.getElem?_setIfInBounds_ne ak]
theorem nu.next(ty:TypeId)(u:nu ρ w n m es ex left cur):∃b N,ρ n=some (b,N)/\
 ((left=[]/\(Instr.next (.pointer<|some ⟨b,0,none⟩) false ty).run P w= .ok (.tuple #[.bool false]) w)\/
 ∃x r v1 v2 w',(x,r)∈yn left/\VR ρ x.1 v1/\VR ρ x.2 v2/\(Instr.next (.pointer<|some ⟨b,0,none⟩) false ty).run P w= .ok (.tuple #[.bool true,v1,v2]) w'/\x8 b w w'/\(∃bm M c sn,ρ m=some (bm,M)/\w'.heap[b]? =some (.mapIter (some bm) c sn c))/\nu ρ w' n m es ex r (some x)):=by
 obtain⟨b,N,bm,M,l,bg,seen,h1,h2,h3,h4,h5,h6,h7,h8,h9⟩:=u;refine⟨b,N,h1,?_⟩;have y9:(leftOf l seen).toList=l.toList.filter fun e=> !seen.contains e.born:=by simp[leftOf]
 obtain⟨l',hp,hq⟩:=h8;rcases run_next_at (P:=P) w ty b bm bg bg seen l bg h3 h4 h5.2 (Nat.le_refl _) with⟨k1,k2⟩|⟨e,he,w1,RE,k2⟩
 ·refine .inl ⟨?_,k2⟩;have:(leftOf l seen).toList=[]:=by apply List.eq_nil_of_length_eq_zero;simpa using k1
  rw[y9] at this;rw[this] at hp;have ni:=hp.symm.eq_nil;subst ni;exact hq.aeL
 ·refine .inr ?_;rw[y9] at he;have Iw:e∈l':=hp.mem_iff.1 he;obtain⟨x,r,Mv,p1,p2,p3,p4,p5⟩:=T7 hq Iw;have cz:bm≠b:=by intro q;subst q;rw[h3] at h4;cases h4
  have iO:(ChangeMaps.setBlock w1 b<|.mapIter (some bm) bg (seen.push e.born) bg).heap[b]? =some (.mapIter (some bm) bg (seen.push e.born) bg):=by
   have cF:b<w.heap.size:=gV h3;have:(ChangeMaps.setBlock w1 b<|.mapIter (some bm) bg (seen.push e.born) bg).heap=w.heap.setIfInBounds b (.mapIter (some bm) bg (seen.push e.born) bg):=by rcases RE with rfl|rfl<;>rfl
   rw[this,Array.getElem?_setIfInBounds_self_of_lt cF]
  refine⟨x,r,e.key,e.val,_,p1,p2,p3,k2,Tt RE,⟨bm,M,bg,seen.push e.born,h2,iO⟩,?_⟩;have rk:e∈l.toList:=(List.mem_filter.1 he).1;have FT:((e::Mv).map (·.born)).Nodup:=by have a:((l.toList.filter fun e=> !seen.contains e.born).map (·.born)).Nodup:=(List.filter_sublist.map _).nodup h5.1;exact((hp.trans p5).map _).nodup_iff.1 a
  rw[List.map_cons,List.nodup_cons] at FT;refine⟨b,N,bm,M,l,bg,seen.push e.born,h1,h2,iO,((Tt RE).block bm cz).trans h4,h5,h6,h7,⟨Mv,?_,p4⟩,⟨e,rk,by simp,p2,p3⟩⟩;have e1:(l.toList.filter fun x=> !(seen.push e.born).contains x.born)=(l.toList.filter fun x=> !seen.contains x.born).filter fun x=> !(x.born == e.born):=by rw[List.filter_filter];congr 1;funext x;simp only[Array.contains_push];rw[Bool.not_or,Bool.and_comm]
  have e2:(e::Mv).filter (fun x=> !(x.born == e.born))=Mv:=by
   rw[List.filter_cons];simp only[beq_self_eq_true,Bool.not_true,Bool.false_eq_true,if_false];refine List.filter_eq_self.2 fun x hx=>?_;have:¬x.born=e.born:=by intro q;exact FT.1 (by rw[←q];exact List.mem_map_of_mem hx)
   simp[this]
  rw[e1];have:=(hp.trans p5).filter fun x=> !(x.born == e.born);rw[e2] at this;exact this
theorem Rel.WO(r:Rel B ρ h w)(ht:n<top)(hg:h.get n=some (.iter m es ex left cur))(hr:ρ n=some (b,N))(hw:x8 b w w')(hb:∃bm M c sn,ρ m=some (bm,M)/\w'.heap[b]? =some (.mapIter (some bm) c sn c))(u:nu ρ w' n m es ex iK iL):Rel B ρ (h.put n<|some<|.iter m es ex iK iL) w':=by
 obtain⟨_,_,_,hB⟩:=r.block ht hg hr;obtain⟨pz,fx,_⟩:=r.iter n m es ex left cur ht hg;have sQ:m≠n:=by intro e;subst e;rw[hg] at fx;cases fx
 have g:∀k,k<top->(h.put n<|some<|.iter m es ex iK iL).get k=if k=n then some (.iter m es ex iK iL) else h.get k:=fun k hk=>Tr.du _ _ _ _ ht hk
 have live:∀j,j<top->∀x,(if j=n then some (ae.iter m es ex iK iL) else h.get j)=some x->∃y,h.get j=some y/\(x.dv=false->y.dv=false):=by
  intro j _ x hx;by_cases e:j=n
  ·subst e;exact⟨_,hg,fun _=>rfl⟩
  ·rw[if_neg e] at hx;exact⟨x,hx,id⟩
 refine⟨?_,?_,?_,by rw[hw.size];exact r.size,?_,r.fz.of (aw.le_refl _) (fun b1 _ hn=>hw.block b1 fun e=>hn n _ N ht hg rfl (by rw[e];exact hr)) (fun b1 _ hn=>hn.sub fun k q hk hq hU=>by
  rw[g k hk] at hq;obtain⟨y,e1,e2⟩:=live k hk q hq;exact⟨y,e1,e2 hU⟩),r.tk.of (aw.le_refl _) (fun k q hk hq yC=>by
  rw[g k hk] at hq;by_cases e:k=n
  ·rw[if_pos e] at hq;cases hq;cases yC
  ·rw[if_neg e] at hq;exact hq) (by rw[hw.size];exact Nat.le_refl _) (fun b1 _ hn=>hw.block b1 fun e=>hn n _ N ht hg rfl (by rw[e];exact hr)) (fun b1 _ hn=>hn.sub fun k q hk hq hU=>by
  rw[g k hk] at hq;obtain⟨y,e1,e2⟩:=live k hk q hq;exact⟨y,e1,e2 hU⟩) fun _ _ _ _ _ e=>e⟩
 ·intro k q hk hq;rw[g k hk] at hq;by_cases e:k=n
  ·subst e;rw[if_pos rfl] at hq;cases hq;obtain⟨bm,M,c,sn,q1,q2⟩:=hb;exact⟨b,N,_,hr,q2,⟨bm,M,c,sn,q1,rfl⟩,fun _=>hB rfl⟩
  ·rw[if_neg e] at hq;obtain⟨b1,N1,o1,h1,h2,h3,h4⟩:=r.is k q hk hq;refine⟨b1,N1,o1,h1,(hw.block b1 fun e2=>?_).trans h2,h3,h4⟩;subst e2;exact e<|r.one k n q _ b1 N1 N hk ht hq hg (.inr rfl) h1 hr
 ·intro k j q q' b1 N1 M1 hk hj hq dS da h1 h2;rw[g k hk] at hq;rw[g j hj] at dS;obtain⟨y,hy,wO⟩:=live k hk q hq;obtain⟨z,hz,Iu⟩:=live j hj q' dS;exact r.one k j y z b1 N1 M1 hk hj hy hz (da.imp wO Iu) h1 h2
 ·intro i m' hJ iW l' c' hi hq;rw[g i hi] at hq;by_cases e:i=n
  ·subst e;rw[if_pos rfl] at hq;cases hq;exact⟨pz,by rw[g m pz,if_neg sQ];exact fx,u⟩
  ·rw[if_neg e] at hq;obtain⟨eF,hl,u'⟩:=r.iter i m' hJ iW l' c' hi hq;have LV:m'≠n:=by intro e2;subst e2;rw[hg] at hl;cases hl
   refine⟨eF,by rw[g m' eF,if_neg LV];exact hl,u'.m8 hw.block (fun M e2=>e ?_) fun M e2=>LV ?_⟩
   ·exact r.one i n _ _ b M N hi ht hq hg (.inr rfl) e2 hr
   ·exact r.one m' n _ _ b M N eF ht hl hg (.inr rfl) e2 hr
 ·intro i j m' AY AZ Ae Az Mp Mq Lm LN hi hj q1 q2;rw[g i hi] at q1;rw[g j hj] at q2;have Zd:∀k,k<top->∀AY AZ Ae Az,(if k=n then some (ae.iter m es ex iK iL) else h.get k)=some (.iter m' AY AZ Ae Az)->∃Mp Mq Lm LN,h.get k=some (.iter m' Mp Mq Lm LN):=by
   intro k _ AY AZ Ae Az q;by_cases e:k=n
   ·subst e;rw[if_pos rfl] at q;cases q;exact⟨_,_,_,_,hg⟩
   ·rw[if_neg e] at q;exact⟨_,_,_,_,q⟩
  obtain⟨_,_,_,_,a1⟩:=Zd i hi _ _ _ _ q1;obtain⟨_,_,_,_,a2⟩:=Zd j hj _ _ _ _ q2;exact r.lone i j m' _ _ _ _ _ _ _ _ hi hj a1 a2
theorem Rel.adr{o:ae}{o':Obj}(r:Rel B ρ h w)(ht:m<top)(hg:h.get m=some .jQ)(hr:ρ m=some (b,N))(hb:w.heap[b]? =some o')(hO:OR ρ N o o')(C1:o.own=true)(ma:∀i es ex left cur,i<top->h.get i≠some (.iter m es ex left cur)):Rel B ρ (h.put m<|some o) w:=by
 obtain⟨ho,HQ⟩:=ae.vx C1;obtain⟨_,_,_,hB⟩:=r.block ht hg hr;have g:∀k,k<top->(h.put m<|some o).get k=if k=m then some o else h.get k:=fun k hk=>Tr.du _ _ _ _ ht hk
 have live:∀j,j<top->∀x,(if j=m then some o else h.get j)=some x->∃y,h.get j=some y/\(x.dv=false->y.dv=false):=by
  intro j _ x hx;by_cases e:j=m
  ·subst e;exact⟨_,hg,fun _=>rfl⟩
  ·rw[if_neg e] at hx;exact⟨x,hx,id⟩
 refine⟨?_,?_,?_,r.size,?_,r.fz.of (aw.le_refl _) (fun _ _ _=>rfl) (fun b1 _ hn=>hn.sub fun k q hk hq hU=>by
  rw[g k hk] at hq;obtain⟨y,e1,e2⟩:=live k hk q hq;exact⟨y,e1,e2 hU⟩),r.tk.of (aw.le_refl _) (fun k q hk hq yC=>by
  rw[g k hk] at hq;by_cases e:k=m
  ·rw[if_pos e] at hq;cases hq;rw[HQ] at yC;cases yC
  ·rw[if_neg e] at hq;exact hq) (Nat.le_refl _) (fun _ _ _=>rfl) (fun b1 _ hn=>hn.sub fun k q hk hq hU=>by
  rw[g k hk] at hq;obtain⟨y,e1,e2⟩:=live k hk q hq;exact⟨y,e1,e2 hU⟩) fun _ _ _ _ _ e=>e⟩
 ·intro k q hk hq;rw[g k hk] at hq;by_cases e:k=m
  ·subst e;rw[if_pos rfl] at hq;cases hq;exact⟨b,N,_,hr,hb,hO,fun _=>hB rfl⟩
  ·rw[if_neg e] at hq;exact r.is k q hk hq
 ·intro k j q q' b1 N1 M1 hk hj hq dS da h1 h2;rw[g k hk] at hq;rw[g j hj] at dS;obtain⟨y,hy,wO⟩:=live k hk q hq;obtain⟨z,hz,Iu⟩:=live j hj q' dS;exact r.one k j y z b1 N1 M1 hk hj hy hz (da.imp wO Iu) h1 h2
 ·intro i m' hJ iW l' c' hi hq;rw[g i hi] at hq;by_cases e:i=m
  ·subst e;rw[if_pos rfl] at hq;cases hq;simp[ae.plain] at ho
  ·rw[if_neg e] at hq;obtain⟨eF,hl,u'⟩:=r.iter i m' hJ iW l' c' hi hq;have LV:m'≠m:=by intro e2;subst e2;exact ma i _ _ _ _ hi hq
   exact⟨eF,by rw[g m' eF,if_neg LV];exact hl,u'⟩
 ·intro i j m' AY AZ Ae Az Mp Mq Lm LN hi hj q1 q2;rw[g i hi] at q1;rw[g j hj] at q2;by_cases e:i=m
  ·rw[if_pos e] at q1;cases q1;simp[ae.plain] at ho
  ·rw[if_neg e] at q1;by_cases e2:j=m
   ·rw[if_pos e2] at q2;cases q2;simp[ae.plain] at ho
   ·rw[if_neg e2] at q2;exact r.lone i j m' _ _ _ _ _ _ _ _ hi hj q1 q2
theorem Rel.Yd(r:Rel B ρ h w)(ht:n<top)(hg:h.get n=some (.iter m es ex left cur)):Rel B ρ ((h.put n none).put m<|some<|mapOf ex es) w:=by
 obtain⟨pz,fx,b,N,bm,M,l,bg,seen,h1,h2,h3,h4,h5,h6,h7,h8,h9⟩:=r.iter n m es ex left cur ht hg;have sQ:m≠n:=by intro e;subst e;rw[hg] at fx;cases fx
 have g:∀k,k<top->(h.put n none).get k=if k=n then none else h.get k:=fun k hk=>Tr.du _ _ _ _ ht hk
 refine(r.drop ht (by rw[hg];simp)).adr pz (by rw[g m pz,if_neg sQ];exact fx) h2 h4 ?_ (by cases ex<;>rfl) ?_
 ·cases ex with
  |true=>obtain⟨q1,q2⟩:=h6 rfl;subst q1;exact⟨l,rfl,rfl,q2⟩
  |false=>obtain⟨q1,q2⟩:=h7 rfl;exact⟨l,bg,rfl,q1,h5,q2⟩
 ·intro i hJ iW iK iL hi hq;rw[g i hi] at hq;by_cases e:i=n
  ·rw[if_pos e] at hq;cases hq
  ·rw[if_neg e] at hq;exact e<|r.lone i n m _ _ _ _ _ _ _ _ hi ht hq hg
end
end Go.Rn
namespace Go.Rn
open Go.RowKit
variable {rest:List Oper} {ops:Array Oper} {o:Oper} {k:List Item} {it:Operand}
section
variable {P:Program} {B:aI} {ρ:aw} {w w1:World} {s s1 s2:AS} {SG:aO} {b:Frame} {a:Act} {cs:List Frame}
theorem put_defers(a:Act)(dst:Option Tmp)(v:Value):(a.put dst v).defers=a.defers:=by cases dst<;>rfl
theorem Jm{fr:AF}{id:Nat}{t1 t2:Tr AV}{v:Value}(hc:fR P B SG)(hl:∀t a,SF<|SG t a)(bH:Fr ρ fr b a)(pa:fr.todo= .code (.region id ops false)::k)(mL:ops.toList=o::rest)(C8:o.guard=none)(hd:∀c,o.op≠ .defer c)(rj:(execOp a.eval o).run P w= .ok (.value v) w1)(CB:cP B w w1)(ay:At B ρ s1 fr.nt t1 w1<|a.put o.dst v)(cJ:s1.nx=s.nx)(hf:dK s1.nx s2.nx ρ)(h:jl P SG fr.nt ops rest t1 s1= .ok t2 s2):
 mf P B ρ s s2 w fr b cs (lone (b.atR a fr.todo) cs w) (.go {fr with tmps:=t2,todo:=k}):=by
 have hw:Region.wanted o (yielded ops a.tmps)=true:=by unfold Region.wanted;rw[C8]
 have ho:ops[0]? =some o:=by rw[←Array.getElem?_toList,mL];rfl
 have lz:ops.size=rest.length+1:=by rw[←Array.length_toList,mL];rfl
 have hk:jB k:=by have:=bH.ok;rw[pa] at this;exact this.tail
 obtain⟨v',w',⟨rfl,rfl⟩,st⟩:=To (R:=fun v' w'=>v'=v/\w'=w1) ho hw hd (by unfold jo;rw[rj];exact⟨rfl,rfl⟩) b k cs<|List.range' 1 rest.length;obtain⟨σ,a',w2,e1,e2,e3,e4,e5⟩:=OE hc hl b k cs rest.length 1 rest rfl (by rw[mL];rfl) ay hf h;refine⟨σ,a',w2,by rw[←cJ];exact e1,e2,?_,CB.trans e4,⟨rfl,rfl,rfl⟩,hk,trivial,?_⟩
 ·rw[e3,put_defers];exact bH.defs.mono e1.le
 ·rw[pa];refine .head stepR_region ?_;rw[List.range_eq_range',lz,List.range'_succ];exact Steps.trans st e5
theorem Te{fr:AF}{n:Nat}{ob:ae}(h:vD fr it s= .ok (n,ob) s1):aK fr.tmps it=some (.ptr<|some (n,0))/\bz n s= .ok ob s1:=by
 unfold vD at h;obtain⟨x,s2,h1,h2⟩:=M.aR h;obtain⟨h3,rfl⟩:=gT h1;split at h2
 ·obtain⟨y,s3,h4,h5⟩:=M.aR h2;obtain⟨h6,rfl⟩:=bI h5;cases h6;exact⟨h3,h4⟩
 ·cases h2
theorem SZ{fr:AF}(h:DX fr=some (it,o,ops,rest,k)):
 ∃id,fr.todo= .code (.region id ops false)::k/\ops.toList=o::rest/\o.guard=none/\o.op= .next it false:=by
 unfold DX at h;split at h
 ·rename_i id anW k' pa;split at h
  ·rename_i o' anM mL;split at h
   ·rename_i it' hg ho;cases h;exact⟨id,pa,mL,hg,ho⟩
   ·cases h
  ·cases h
 ·cases h
theorem Tu(bU:P.follows .mixedOrders=true)(hc:fR P B SG)(hl:∀t a,SF<|SG t a):∀(f:Nat) {ρ:aw} {w:World} {s s9:AS} {a:Act} {fr:AF} {x9:bt},Fr ρ fr b a->At B ρ s fr.nt fr.tmps w a->dK s.nx s9.nx ρ->
 nV P SG f fr s= .ok x9 s9->mf P B ρ s s9 w fr b cs (lone (b.atR a fr.todo) cs w) x9
 |0,ρ,w,s,s9,a,fr,x9,bH,ay,hf,h=>by cases h
 |f+1,ρ,w,s,s9,a,fr,x9,bH,ay,hf,h=>by
  have on:∀{s2:AS} {aQ:AF},nV P SG f aQ s2= .ok x9 s9->bF s2->s.nx<=s2.nx->mf P B ρ s s2 w fr b cs (lone (b.atR a fr.todo) cs w) (.go aQ)->mf P B ρ s s9 w fr b cs (lone (b.atR a fr.todo) cs w) x9:=fun h2 dI ly w1=>w1.Lo bH ly ((SF.nV P hl f _).le dI h2) fun σ a' w' e1 Cz CA=>Tu bU hc hl f Cz CA (hf.next ly e1) h2;unfold nV at h;cases e:DX fr with
  |none=>
   rw[e] at h;obtain⟨x,s2,e1,h3⟩:=M.aR h;have dI:=(SF.jg P hl fr).cG ay.cG e1;have ly:=(SF.jg P hl fr).le ay.cG e1;cases x with
   |go aQ=>exact on h3 dI ly<|Gt bU hc hl bH ay (hf.sub (Nat.le_refl _)<|(SF.nV P hl f aQ).le dI h3) e1
   |leave aQ j=>obtain⟨rfl,rfl⟩:=bI h3;exact Gt bU hc hl bH ay hf e1
  |some q=>
   obtain⟨it,o,ops,rest,k⟩:=q;obtain⟨id,pa,mL,C8,ho⟩:=SZ e;rw[e] at h;obtain⟨x,s2,e1,h3⟩:=M.aR h;obtain⟨n,ob⟩:=x;obtain⟨h1,h2⟩:=Te e1;obtain⟨hx,hg,hh,cJ⟩:=fY h2;have dI:bF s2:=(SF.bz n).cG ay.cG h2;have ht:n<top:=Nat.lt_of_lt_of_le hx ay.cG.nx;have hd:∀c,o.op≠ .defer c:=fun c q=>by rw[ho] at q;cases q
   cases ob with
   |iter m es ex left cur=>
    obtain⟨pz,fx,u⟩:=ay.rel.iter n m es ex left cur ht hg;obtain⟨bn,N,hn,qc⟩:=u.next (P:=P) o.type;have ID:VR ρ (.ptr<|some (n,0))<|a.eval it:=D9 ay.tr ay.g h1;have FV:a.eval it= .pointer (some ⟨bn,0,none⟩):=by simp only[VR] at ID;obtain⟨b',N',q1,q2⟩:=ID;rw[hn] at q1;cases q1;exact q2
    have Hz:∀v w',(Instr.next (.pointer<|some ⟨bn,0,none⟩) false o.type).run P w= .ok v w'->(execOp a.eval o).run P w= .ok (.value v) w':=by intro v w' q;simp only[execOp,ho,FV,Sem.run_bind,q,Result.andThen_ok,Sem.run_pure]
    obtain⟨_,_,_,hB⟩:=ay.rel.block ht hg hn;cases left with
    |nil=>
     obtain⟨aQ,s3,e3,h4⟩:=M.aR h3;have rj:(Instr.next (.pointer<|some ⟨bn,0,none⟩) false o.type).run P w= .ok (.tuple #[.bool false]) w:=by
      rcases qc with⟨_,q⟩|⟨x,r,v1,v2,w',q,_⟩
      ·exact q
      ·cases q
     have jv:=(SF.pS P hl fr n m es ex o ops rest k).cG dI e3;have C7:=(SF.pS P hl fr n m es ex o ops rest k).le dI e3;have RF:=(SF.nV P hl f aQ).le jv h4;refine on h4 jv ak ?_;unfold pS at e3;obtain⟨u1,s4,i1,i2⟩:=M.aR e3;obtain⟨u2,s5,i3,i4⟩:=M.aR i2;obtain⟨t1,s6,i5,i6⟩:=M.aR i4;obtain⟨t2,s7,i7,i8⟩:=M.aR i6;obtain⟨rfl,rfl⟩:=bI i8;obtain⟨i9,rfl⟩:=gT i5;obtain⟨_,_,_,j1,j2⟩:=jz i1;obtain⟨_,_,_,j3,j4⟩:=jz i3;have C9:bF s6:=(SF.bN m _).cG ((SF.bN n _).cG dI i1) i3;have CC:Rel B ρ s6.h w:=by rw[j3,j1,hh];exact ay.rel.Yd ht hg
     have Da:VR ρ (.tuple [.bool false])<|.tuple #[.bool false]:=by simp only[VR,az];exact⟨_,rfl,_,_,rfl,rfl,rfl⟩
     obtain⟨q1,q2⟩:=DZ (a:=a) ay.tr ay.nt i9 Da;exact Jm hc hl bH pa mL C8 hd (Hz _ _ rj) (cP.refl _ _) ⟨q1,CC,ay.g,ay.nt,C9⟩ (by rw[j4,j2,cJ]) (by rw[j4,j2,cJ];exact hf.sub (Nat.le_refl _) RF) i7
    |cons y ys=>
     cases ys with
     |cons _ _=>cases h3
     |nil=>
      obtain⟨aQ,s3,e3,h4⟩:=M.aR h3;rcases qc with⟨q,_⟩|⟨x,r,v1,v2,w',iz,FY,sS,rj,IE,QM,RG⟩
      ·cases q
      ·obtain⟨rfl,rfl⟩:x=y/\r=[]:=by simpa[yn] using iz
       have jv:=(SF.pW P hl fr n (.iter m es ex []<|some x) o ops rest k<|.tuple [.bool true,x.1,x.2]).cG dI e3;have C7:=(SF.pW P hl fr n (.iter m es ex []<|some x) o ops rest k<|.tuple [.bool true,x.1,x.2]).le dI e3;have RF:=(SF.nV P hl f aQ).le jv h4;refine on h4 jv ak ?_;unfold pW at e3;obtain⟨u1,s4,i1,i2⟩:=M.aR e3;obtain⟨t1,s6,i5,i6⟩:=M.aR i2;obtain⟨t2,s7,i7,i8⟩:=M.aR i6;obtain⟨rfl,rfl⟩:=bI i8;obtain⟨i9,rfl⟩:=gT i5;obtain⟨_,_,_,j1,j2⟩:=jz i1;have C9:bF s6:=(SF.bN n _).cG dI i1;have CC:Rel B ρ s6.h w':=by rw[j1,hh];exact ay.rel.WO ht hg hn IE QM RG
       have Da:VR ρ (.tuple [.bool true,x.1,x.2])<|.tuple #[.bool true,v1,v2]:=by simp only[VR,az];exact⟨_,rfl,_,_,rfl,rfl,_,_,rfl,FY,_,_,rfl,sS,rfl⟩
       obtain⟨q1,q2⟩:=DZ (a:=a) ay.tr ay.nt i9 Da;exact Jm hc hl bH pa mL C8 hd (Hz _ _ rj) (IE.below<|hB rfl) ⟨q1,CC,ay.g,ay.nt,C9⟩ (by rw[j2,cJ]) (by rw[j2,cJ];exact hf.sub (Nat.le_refl _) RF) i7
   |_=>cases h3
end
end Go.Rn
namespace Go.Rn
open Go.RowKit
variable {x:AV} {vs:Array Value} {args:List AV} {u:Nat} {j:Option Code} {fn:Func} {body:Code}
section
variable {P:Program} {B:aI} {ρ:aw} {w:World} {s s1:AS} {SG:aO}
theorem Jf(hv:az ρ args vs.toList)(n:Nat)(hn:max n args.length<=top):TR ρ (max n args.length) (eg args)<|vs++Array.replicate (n - vs.size) undef:=by
 have hlen:=hv.length;simp only[Array.length_toList] at hlen;refine⟨by simp;omega,fun i x hx=>?_⟩;unfold eg at hx;rw[Tr.xA _ _ _ _ ak] at hx;by_cases h:i<args.length
 ·rw[if_pos ak,Nat.sub_zero] at hx;obtain⟨v,h1,h2⟩:=hv.get i x hx;rw[Array.getD_eq_getD_getElem?,Array.getElem?_append_left ak];rw[Array.getElem?_toList] at h1;rw[h1];exact h2
 ·rw[if_neg ak,Tr.get_nil] at hx;cases hx
def Kv:List AV->AV
 |[v]=>v
 |l=>.tuple l
def oU:List Value->Value
 |[v]=>v
 |l=>.tuple l.toArray
theorem NV:∀{rs:List AV} {us:List Value},az ρ rs us->VR ρ (Kv rs) (oU us)
 |[],us,h=>by simp only[az] at h;subst h;simp only[Kv,oU,VR,az];exact⟨_,rfl,rfl⟩
 |[v],us,h=>by simp only[az] at h;obtain⟨u,Mu,rfl,g1,rfl⟩:=h;exact g1
 |v::v2::rs,us,h=>by simp only[az] at h;obtain⟨u,Mu,rfl,g1,u2,nK,rfl,g3,g4⟩:=h;simp only[Kv,oU,VR,az];exact⟨_,rfl,u,_,rfl,g1,u2,nK,rfl,g3,g4⟩
theorem NB{rs:List ResultVar}{fr:AF}(h:finish P rs fr j s= .ok x s1):
 (j=none\/j=some .ret)/\∃u s4 vs,rU fr.defers s= .ok u s4/\tM P fr.tmps rs s4= .ok vs s1/\x=Kv vs:=by
 unfold finish at h;obtain⟨u,s3,h5,h6⟩:=M.aR h;have Rp:s3=s/\(j=none\/j=some .ret):=by
  cases j with
  |none=>exact⟨(bI (show M.pure () s= .ok u s3 from h5)).2,.inl rfl⟩
  |some c=>cases c<;>first|exact⟨(bI (show M.pure () s= .ok u s3 from h5)).2,.inr rfl⟩|cases h5
 obtain⟨hs,hj⟩:=Rp;clear h5 h;subst hs;obtain⟨u2,s4,h7,h8⟩:=M.aR h6;obtain⟨vs,s5,h9,gH⟩:=M.aR h8;refine⟨hj,u2,s4,vs,h7,?_⟩;cases vs with
 |nil=>obtain⟨rfl,rfl⟩:=bI (show M.pure (.tuple []) s5= .ok x s1 from gH);exact⟨h9,rfl⟩
 |cons v rs=>
  cases rs with
  |nil=>obtain⟨rfl,rfl⟩:=bI (show M.pure v s5= .ok x s1 from gH);exact⟨h9,rfl⟩
  |cons v2 rs=>obtain⟨rfl,rfl⟩:=bI (show M.pure (.tuple<|v::v2::rs) s5= .ok x s1 from gH);exact⟨h9,rfl⟩
theorem ads{b:Frame}{a:Act}{cs:List Frame}(bU:P.follows .mixedOrders=true)(hc:fR P B SG)(hl:∀t a,SF<|SG t a){af:AF}{x:bt}(bH:Fr ρ af b a)(ay:At B ρ s af.nt af.tmps w a)(hf:dK s.nx s1.nx ρ)(h:Ax P SG u af s= .ok x s1):mf P B ρ s s1 w af b cs (lone (b.atR a af.todo) cs w) x:=by
 unfold Ax at h;cases e:Nat.beq u 1 with
 |true=>simp only[e] at h;exact Tu bU hc hl _ bH ay hf h
 |false=>simp only[e] at h;exact NU bU hc hl _ _ bH ay hf h
theorem SN{g:FuncId}{fr:AF}{s2 s3:AS}(ch:P.funcs[g]? =some fn)(cw:fn.body=some body)(A4:bF s2)(hw:∀cs:List Frame,mf P B ρ s s2 w ⟨g,eg args,max fn.ntmps args.length,[.code body],[],none⟩ {(default:Frame) with fn:=g,kind:=.normal,roundOf:=none} cs
 (lone (({(default:Frame) with fn:=g,kind:=.normal,roundOf:=none}:Frame).atR {tmps:=vs++Array.replicate (fn.ntmps - vs.size) undef,defers:=[]} [.code body]) cs w) (.leave fr j))(qi:finish P fn.results.toList fr j s2= .ok x s3):Calls P g vs w fun e w'=>∃v,e= .returned v/\ki B ρ s s3 w x v w':=by
 intro cs;let b:Frame:={(default:Frame) with fn:=g,kind:=.normal,roundOf:=none};let a:Act:={tmps:=vs++Array.replicate (fn.ntmps - vs.size) undef,defers:=[]};have ya:Frame.enter P g vs .normal=b.atR a [.code body]:=by simp[Frame.enter,Frame.atR,ch,cw,b,a]
 obtain⟨σ,a',w',e1,e2,e3,e4,⟨e5,FZ,anX⟩,e6,e7,e8⟩:=hw cs;obtain⟨hj,u2,s4,rs,h7,h9,hx⟩:=NB qi;have pB:bF s4:=(SF.rU _).cG A4 h7;have qA:Leaves j fr.todo:=e7;obtain⟨d1,d2,w2,d3,d4,d5⟩:=Je (P:=P) (fr:=b) (cs:=cs) A4 e2.rel e3 h7;obtain⟨f1,f2,us,f3,f4⟩:=Jb (P:=P) (w:=w2) e2.tr pB d3 h9;have HV:Steps P (lone (b.atR a' fr.todo) cs w')<|lone {b.atR a' fr.todo with mode:=.returning} cs w':=by
  rcases hj with rfl|rfl
  ·have e:fr.todo=[]:=qA;rw[e];exact .one<|stepR_end rfl
  ·obtain⟨k,e⟩:=qA;rw[e];exact .one<|stepR_ret rfl
 have yo:=d5 {b.atR a' fr.todo with mode:=.returning} cs jJ rfl;have kD:(results fn a'.tmps).run P w2= .ok (oU us) w2:=by
  unfold results;rw[Array.mapM_eq_mapM_toList];simp only[Sem.run_bind,map_eq_pure_bind,Sem.run_pure];refine Eq.trans (congrArg (fun r:Result (List Value)=>(r.andThen fun a w'=>Result.ok a.toArray w').andThen fun a w'=>Result.ok (if h:a.size=1 then a[0] else Value.tuple a) w') f3) ?_;have:∀l:List Value,(Result.ok (if h:l.toArray.size=1 then l.toArray[0] else Value.tuple l.toArray) w2:Result Value)= .ok (oU l) w2:=by
   intro l
   match l with
   |[]=>rfl
   |[v]=>rfl
   |v::v2::l=>simp[oU]
  exact this us
 refine⟨.returned<|oU us,w2,{b.atR a' fr.todo with mode:=.returning,defers:=[]},⟨_,rfl,?_⟩,?_,rfl,?_⟩
 ·exact⟨σ,by rw[show s3.nx=s2.nx by rw[f2,d1]];exact e1,by rw[hx];exact NV f4,by rw[f1];exact d3,e4.trans d4⟩
 ·rw[ya];exact Steps.trans e8<|Steps.trans HV yo
 ·exact⟨rfl,rfl,rfl,fn,ch,kD⟩
theorem adt(bU:P.follows .mixedOrders=true)(hc:fR P B SG)(hl:∀t a,SF<|SG t a){f:FuncId}(ch:P.funcs[f]? =some fn)(cw:fn.body=some body)(dE:(fn.name == "runtime.NumGoroutine")=false)(dq:iD body)(fi:bF s)(r:Rel B ρ s.h w)(hg:gk ρ)(hf:dK s.nx s1.nx ρ)(h:EM P u f fn.ntmps fn.results.toList body SG args s= .ok x s1)(hv:az ρ args vs.toList):jo P ((callFunc f vs).run P w)<|ki B ρ s s1 w x:=by
 have bJ:(callFunc f vs).run P w= .ok (.enter f vs) w:=by
  have HA:(program).run P w= .ok P w:=rfl;have hn:fn.name≠ "runtime.NumGoroutine" :=by simpa using dE
  simp only[callFunc,Sem.run_bind,HA,Result.andThen_ok,ch,dE,cw];simp
 rw[bJ];unfold EM at h;obtain⟨h1,h2⟩:=cY h;have pn:=aL.1 h1;obtain⟨y,s2,h3,h4⟩:=M.aR h2;cases y with
 |go fr=>cases h4
 |leave fr j=>have IF:finish P fn.results.toList fr j s2= .ok x s1:=h4;have dI:=(SF.Ax P hl u ⟨f,eg args,max fn.ntmps args.length,[.code body],[],none⟩).cG fi h3;have C5:=(SF.finish P fn.results.toList fr j).le dI IF;exact SN ch cw dI (fun cs=>ads (b:={(default:Frame) with fn:=f,kind:=.normal,roundOf:=none}) (a:={tmps:=vs++Array.replicate (fn.ntmps - vs.size) undef,defers:=[]}) (cs:=cs) bU hc hl ⟨rfl,rfl,trivial,rfl,.cons dq .nil⟩ ⟨Jf hv _ pn,r,hg,pn,fi⟩ (hf.sub (Nat.le_refl _) C5) h3) IF
structure bC (P:Program):Prop where
 mixed:P.follows .mixedOrders=true
 code:∀(f:FuncId) (fn:Func) (body:Code),P.funcs[f]? =some fn->fn.body=some body->iD body
def WQ(_:Program)(_:aI)(_:FuncId->Nat):Prop:=True
theorem UM(hP:bC P){j0:FuncId->Nat}(hw:WQ P B j0):∀(n:Nat),fR P B (Ay P j0 n)
 |0=>⟨(fun f args x s s1 ρ w vs _ _ _ _ h _=>by cases h),(fun l b N args x s s1 ρ w vs _ _ _ _ h _ _=>by cases h),(fun n o k x s s1 ρ w _ _ h=>by cases h)⟩
 |n+1=>by
  have ih:=UM hP hw n;refine⟨fun f args x s s1 ρ w vs fi r hg hf h hv=>?_,fun l b N args x s s1 ρ w vs fi r hg hf h hv hl=>acm hP.mixed ih (Jp P j0 n) fi r hg hf h hv hl,fun n o k x s s1 ρ w _ _ h=>by cases h⟩;have h':(Ir P j0 f).val (Ay P j0 n) args s= .ok x s1:=h;unfold Ir at h';cases e1:P.funcs[f]? with
  |none=>rw[e1] at h';cases h'
  |some fn=>
   rw[e1] at h';cases e2:fn.body with
   |none=>simp only[e2] at h';cases h'
   |some body=>
    simp only[e2] at h';cases e3:(fn.name == "runtime.NumGoroutine") with
    |true=>simp only[e3] at h';cases h'
    |false=>simp only[e3] at h';exact adt hP.mixed ih (Jp P j0 n) e1 e2 e3 (hP.code f fn body e1 e2) fi r hg hf h' hv
end
end Go.Rn
namespace Go.Rn
theorem sameKey_eq{a b:AV}(h:sameKey a b=some true):a=b:=by
 unfold sameKey at h;split at h<;>first|(cases h;done)|skip
 ·rename_i k x k' y;cases hk:decide (k=k') with
  |false=>rw[hk] at h;cases h
  |true=>
   rw[hk] at h;injection h with h
   have e1:=of_decide_eq_true hk;have e2:x=y:=by simpa using h
   rw[e1,e2]
 ·rename_i x y;injection h with h
  obtain⟨x⟩:=x;obtain⟨y⟩:=y;have e:x=y:=by have h':(x == y)=true:=h;exact eq_of_beq h'
  rw[e]
 ·rename_i x y;injection h with h
  have e:x=y:=by simpa using h
  rw[e]
end Go.Rn

namespace Go.Rn
open Go.RowKit
noncomputable section
def eh(P:Program)(SG:aO)(k:Nat):AF->M bt:= @Nat.rec (fun _=>AF->M bt) (fun fr=>M.pure<|.go fr) (fun _ ih fr=>(jg P SG fr).bind fun x=> @bt.rec (fun _=>M bt) ih (fun fr j=>M.pure<|.leave fr j) x) k
def tS:List Nat->Code->Code
 |[],c=>c
 |0::l,.seq a _=>tS l a
 |_::l,.seq _ b=>tS l b
 |0::l,.cond _ a _=>tS l a
 |_::l,.cond _ _ b=>tS l b
 |_::l,.block _ b=>tS l b
 |_::l,.loop b=>tS l b
 |_::l,.scope b=>tS l b
 |0::l,.rangeFunc _ _ a _=>tS l a
 |_::l,.rangeFunc _ _ _ b=>tS l b
 |_::_,c=>c
def getAll(h:Tr ae):List Nat->List (Option ae)
 |[]=>[]
 |n::ns=>h.get n::getAll h ns
def UN:List (Option ae)->Bool
 |[]=>true
 |none::l=>UN l
 |some o::l=>match o.plain with
  |true=>UN l
  |false=>false
def PI(m:Nat):List Nat->Bool
 |[]=>true
 |n::l=>match Nat.blt n m with
  |true=>PI m l
  |false=>false
end
theorem NC{m:Nat}:∀{l:List Nat},PI m l=true->∀n∈l,n<m
 |[],_,n,h=>by cases h
 |a::l,hp,n,h=>by
  unfold PI at hp;split at hp
  ·rename_i e;rcases List.mem_cons.1 h with rfl|h
   ·rw[←blt_eq];exact e
   ·exact NC hp n h
  ·cases hp
section
variable {P:Program} {B:aI} {ρ:aw} {w:World} {s s1:AS} {SG:aO} {b:Frame} {a:Act} {cs:List Frame}
theorem SF.eh(P:Program){SG:aO}(bJ:∀t a,SF<|SG t a):∀(k:Nat) (fr:AF),SF (eh P SG k fr)
 |0,fr=>SF.pure _
 |k+1,fr=>by
  refine SF.bind (SF.jg P bJ fr) fun x=>?_;cases x with
  |go fr=>exact SF.eh P bJ k fr
  |leave fr j=>exact SF.pure _
theorem JN(bU:P.follows .mixedOrders=true)(hc:fR P B SG)(hl:∀t a,SF<|SG t a):∀(k:Nat) {ρ:aw} {w:World} {s s1:AS} {a:Act} {af:AF} {x:bt},Fr ρ af b a->At B ρ s af.nt af.tmps w a->dK s.nx s1.nx ρ->
 eh P SG k af s= .ok x s1->mf P B ρ s s1 w af b cs (lone (b.atR a af.todo) cs w) x
 |0,ρ,w,s,s1,a,af,x,bH,ay,hf,h=>by obtain⟨rfl,rfl⟩:=bI (show M.pure (.go af) s= .ok x s1 from h);exact DQ bH ay rfl rfl ⟨rfl,rfl,rfl⟩ bH.ok trivial<|Steps.refl _ _
 |k+1,ρ,w,s,s1,a,af,x,bH,ay,hf,h=>by
  obtain⟨y,s2,h1,h2⟩:=M.aR (show((jg P SG af).bind fun x=> @bt.rec (fun _=>M bt) (eh P SG k) (fun fr j=>M.pure<|.leave fr j) x) s= .ok x s1 from h);have ly:=(SF.jg P hl af).le ay.cG h1;have dI:=(SF.jg P hl af).cG ay.cG h1;cases y with
  |go fr=>have sU:eh P SG k fr s2= .ok x s1:=h2;have qy:=(SF.eh P hl k fr).le dI sU;have w1:=Gt (b:=b) (cs:=cs) bU hc hl bH ay (hf.sub (Nat.le_refl _) qy) h1;exact w1.Lo bH ly qy fun σ a' w' e1 Cz CA=>JN bU hc hl k Cz CA (hf.next ly e1) sU
  |leave fr j=>obtain⟨rfl,rfl⟩:=bI (show M.pure (.leave fr j) s2= .ok x s1 from h2);exact Gt bU hc hl bH ay hf h1
theorem aeM{h:Tr ae}{nx:Nat}(hb:Nat.ble nx top=true):bF ⟨h,nx,0,[],[]⟩:=⟨Nat.zero_le _,aL.1 hb⟩
end
end Go.Rn
