import Derived.Test.YtgnieaajkdangaaDoorRnGB
import Derived.IntWalk
import Derived.MapKept
import Derived.AtR
set_option maxRecDepth 100000
set_option maxHeartbeats 8000000
set_option linter.unusedSimpArgs false
namespace Go.Rn
open Go.RowKit
variable {n:Nat} {v:Value} {ty:TypeId} {a:AV}
theorem Rel.MX{B:aZ}{ρ:Ren}{h:Tr aE}{w w':World}(r:Rel B ρ h w){p:aE}{b N:Nat}(ht:n<top)(hg:h.get n=some p)(hp:p.plain=true)(iL:p.du=false)(hr:ρ n=some (b,N))(hw:rW b w w'):
  Rel B ρ (h.put n none) w'/\∀m q,m<top->(h.put n none).get m=some q->∀M,ρ m≠some (b,M):=by
 have g:∀m,m<top->(h.put n none).get m=if m=n then none else h.get m:=fun m hm=>Tr.hH _ _ _ _ ht hm
 have lL:∀m q,m<top->(h.put n none).get m=some q->∀M,ρ m≠some (b,M):=by
  intro m q hm hq M e
  rw[g m hm] at hq
  by_cases e2:m=n
  ·rw[if_pos e2] at hq;cases hq
  ·rw[if_neg e2] at hq;exact e2 (r.one m n q p b M N hm ht hq hg (.inr iL) e hr)
 refine⟨?_,lL⟩
 have hl:h.get n≠some .sk:=by intro e;rw[hg] at e;cases e;simp[aE.plain] at hp
 have r2:=r.drop ht hl
 refine⟨?_,r2.one,?_,by rw[hw.size];exact r.size,r2.lone,r.fz.of (Ren.le_refl _) (fun b1 _ hn=>hw.block b1 fun e=>hn n p N ht hg iL (by rw[e];exact hr)) (fun b1 _ hn=>hn.sub fun m q hm hq nb=>by
  rw[g m hm] at hq
  by_cases e:m=n
  ·rw[if_pos e] at hq;cases hq
  ·rw[if_neg e] at hq;exact⟨q,hq,nb⟩)⟩
 ·intro m q hm hq
  obtain⟨b1,N1,o1,h1,h2,h3,h4⟩:=r2.is m q hm hq
  exact⟨b1,N1,o1,h1,(hw.block b1 fun e=>lL m q hm hq N1 (by rw[h1,e])).trans h2,h3,h4⟩
 ·intro i m es ex left cur hi hq
  obtain⟨hm,nK,u⟩:=r2.iter i m es ex left cur hi hq
  exact⟨hm,nK,u.zq hw.block (lL i _ hi hq) (lL m _ hm nK)⟩
section
variable {P:Program} {B:aZ} {ρ:Ren} {w:World} {s s1:AS} {x:AV} {call:bf} {t:Tr AV} {ev:Operand->Value} {o:Oper}
theorem wrap_small(h:n<2 ^ 63):IntKind.i64.wrap (n:Int)=n:=by
 exact IntWalk.i64_in _ aF
theorem QS{l c:AV}{vl vc:Value}(hl:VR ρ l vl)(hc:VR ρ c vc)(r:Rel B ρ s.h w)(hf:dH s.nx s1.nx ρ)(h:makeSlice P ty l c s= .ok x s1):hZ P B ρ s s1 w x (Instr.makeSlice ty vl vc):=by
  unfold makeSlice at h
  cases e1:P.underlying ty with
  |none=>simp only[e1] at h;cases h
  | some d=>
    cases d<;>simp only[e1] at h<;>first|(cases h;done)|skip
    rename_i e
    obtain⟨il,h1,h⟩:=ch h
    obtain⟨ic,h2,h⟩:=ch h
    obtain⟨i,h3,h⟩:=ch h
    obtain⟨nc,h4,h⟩:=ch h
    obtain⟨nl,h5,h⟩:=ch h
    obtain⟨z,h6,h⟩:=ch h
    obtain⟨h7,h⟩:=dY h
    obtain⟨n,s2,h8,h9⟩:=M.bG h
    obtain⟨rfl,rfl⟩:=bW h9
    obtain⟨q1,q2⟩:=and_true.1 h7
    obtain⟨q3,q4⟩:=and_true.1 q2
    obtain⟨q5,q6⟩:=and_true.1 q4
    have q1:=bH.1 q1
    have q3:=bH.1 q3
    obtain⟨k1,_,rfl⟩:=hl.yA h1
    obtain⟨k2,_,rfl⟩:=hc.yA h2
    obtain⟨rfl,jR⟩:=vL h4
    obtain⟨rfl,dS⟩:=vL h5
    unfold room at jR q1
    obtain⟨vz,g1,g2⟩:=ya (P:=P) (w:=w) ρ h6
    obtain⟨ht,rfl,rfl⟩:=rL h8
    have kI:ρ s.nx=none:=hf s.nx (Nat.le_refl _) (Nat.lt_succ_self _) aF
    have hz:=g2.cells.length
    simp only[Array.length_toList] at hz
    have mJ:(Array.range (nc*i.size)).map (fun j=>(if nc*i.size=0 then(#[]:Array Value) else vz.cells)[j % (if nc*i.size=0 then(#[]:Array Value) else vz.cells).size]!)=(Array.range (nc*i.size)).map (fun j=>vz.cells[j % vz.cells.size]!):=by
      by_cases q:nc*i.size=0
      · rw[q];simp
      · simp only[if_neg q]
    refine⟨hY ρ s.nx (w.heap.size,nc*i.size),{w with heap:=w.heap.push (.cells ((Array.range (nc*i.size)).map (fun j=>vz.cells[j % vz.cells.size]!)) e)},.slice (some ⟨w.heap.size,0,none⟩) nl nc,Ext.sK kI,?_,?_,?_,(gh.alloc w _).below r.size⟩
    · have w1:IntKind.i64.wrap (nl:Int)=nl:=wrap_small aF
      have w2:IntKind.i64.wrap (nc:Int)=nc:=wrap_small aF
      have t1:(decide ((nc:Int)<0)||decide ((i.bytes:Int)*(nc:Int)>2 ^ 48))=false:=by
        have:¬((nc:Int)<0):=by omega
        have h2:¬((i.bytes:Int)*(nc:Int)>2 ^ 48):=by
          have:(i.bytes:Int)*(nc:Int)=((nc*i.bytes:Nat):Int):=by rw[Nat.mul_comm];simp
          rw[this];omega
        rw[decide_eq_false this,decide_eq_false h2];rfl
      have t2:¬((nl:Int)<0):=by omega
      have t3:¬((nl:Int)>(nc:Int)):=by omega
      simp only[Instr.makeSlice,Sem.run_bind,bS e1,Result.andThen_ok,asInt,asIntOf,Sem.run_pure,oz h3,w1,w2]
      have aet:¬(((decide ((nc:Int)<0)||decide ((i.bytes:Int)*(nc:Int)>2 ^ 48))=true)\/((nl:Int)<0)\/((nl:Int)>(nc:Int))):=by
        rw[t1];rintro (e|e|e)
        · cases e
        · exact t2 e
        · exact t3 e
      have Ws:((decide ((nc:Int)<0)||decide ((i.bytes:Int)*(nc:Int)>2 ^ 48))||decide ((nl:Int)<0)||decide ((nl:Int)>(nc:Int)))=false:=by
        rw[t1];simp[t2,t3]
      simp only[Ws,Bool.false_eq_true,if_false,Sem.run_bind,run_askRoom,Result.andThen_ok,Int.toNat_natCast,eZ (show dG P e=some i.size by simp[dG,h3])]
      by_cases q:nc*i.size=0
      · simp only[if_pos q] at mJ ⊢
        simp only[Sem.run_bind,Sem.run_pure,Result.andThen_ok,mJ]
        rfl
      · simp only[if_neg q] at mJ ⊢
        simp only[Sem.run_bind,g1,Sem.run_pure,Result.andThen_ok]
        rfl
    · simp only[VR];exact⟨_,_,lE _ _ _,rfl⟩
    · refine r.new ht kI rfl ⟨_,e,rfl,by simp,Nat.le_refl _,fun j hj=>?_⟩
      have YI:0<z.cells.length:=by
        rcases Nat.eq_zero_or_pos z.cells.length with h0|h0
        · rw[h0] at q5
          have:Nat.beq (nc*i.size) 0=true:=by
            cases hb:Nat.beq (nc*i.size) 0 with
            |true=>rfl
            |false=>rw[hb] at q5;simp at q5
          have:=fT.1 this;omega
        · exact h0
      have hm:j % z.cells.length<z.cells.length:=Nat.mod_lt _ YI
      obtain⟨a,ha⟩:∃a,z.cells[j % z.cells.length]? =some a:=⟨_,List.getElem?_eq_getElem hm⟩
      obtain⟨v,hv,hr⟩:=g2.cells.get _ a ha
      refine⟨a,v,?_,List.all_eq_true.1 q6 a (List.mem_of_getElem? ha),?_,hr.mono (pL kI)⟩
      · unfold cellAt;rw[Tr.get_nil];exact ha
      · have Di:j % vz.cells.size<vz.cells.size:=by rw[←hz];exact hm
        have n5:vz.cells[j % vz.cells.size]? =some v:=by rw[←hz];simpa using hv
        simp only[Array.getElem?_map,Array.getElem?_range,if_pos hj,Option.map_some]
        rw[getElem!_pos vz.cells _ Di]
        rw[Array.getElem?_eq_getElem Di] at n5
        injection n5 with n5;rw[n5]
theorem QM{l c:Operand}(he:∀x v,aR t x=some v->VR ρ v (ev x))(r:Rel B ρ s.h w)(hf:dH s.nx s1.nx ρ)(h:te P ty l c call t s= .ok x s1)(ho:o.op= .makeSlice ty l c):fB P B ρ s s1 w x (execOp ev o):=by
 unfold te at h
 obtain⟨a,h1,h2⟩:=ch h
 obtain⟨b,h3,h4⟩:=ch h2
 have:=(QS (P:=P) (he l a h1) (he c b h3) r hf h4).op
 simpa only[execOp,ho] using this
theorem AU{size:Nat}{l:List AV}(ha:VR ρ a v)(fi:bY s)(r:Rel B ρ s.h w)(h:firstCells size n a s= .ok l s1):
    s1.h=s.h/\s1.nx=s.nx/\∃arr:Array Value,(Builtin.firstCells size n v).run P w= .ok arr w/\aQ ρ l arr.toList:=by
  cases a with
  | slice p len cap=>
    cases p with
    | none=>
      have h':(M.pure []:M (List AV)) s= .ok l s1:=by
        cases len<;>cases cap<;>exact h
      obtain⟨rfl,rfl⟩:=bW h'
      obtain⟨rfl,rfl,rfl⟩:=jG ha
      exact⟨rfl,rfl, #[],rfl,by simp[aQ]⟩
    | some p=>
      obtain⟨m,i⟩:=p
      by_cases hc:cap= .lost
      · subst hc
        simp only[VR] at ha
        obtain⟨rfl,b,N,q,c,e,rfl⟩:=ha
        obtain⟨h1,h2⟩:=dY (show(bC (Nat.beq n 0) <| (M.pure []:M (List AV))) s= .ok l s1 from h)
        obtain⟨rfl,rfl⟩:=bW h2
        have:=fT.1 h1;subst this
        refine⟨rfl,rfl, #[],?_,by simp[aQ]⟩
        simp[Builtin.firstCells,loadCells,loadCellsFrom]
      · rw[DY hc] at h
        have:∃b N c,ρ m=some (b,N)/\v= .slice (some ⟨b,i,none⟩) len c:=by
          cases cap with
          |known c=>simp only[VR] at ha;obtain⟨b,N,e,rfl⟩:=ha;exact⟨b,N,c,e,rfl⟩
          |aX lo e0=>simp only[VR] at ha;obtain⟨b,N,c,e,rfl,_⟩:=ha;exact⟨b,N,c,e,rfl⟩
          |lost=>exact absurd rfl hc
        obtain⟨b,N,c,e,rfl⟩:=this
        obtain⟨a1,a2,a3,a4,vs,a5,a6,_⟩:=rD (P:=P) fi r h e
        exact⟨a1,a2,vs.toArray,by simpa[Builtin.firstCells] using a5,by simpa using a6⟩
  | str q =>
    have h':(M.pure ((A7 q).take n):M (List AV)) s= .ok l s1:=h
    obtain⟨rfl,rfl⟩:=bW h'
    simp only[VR] at ha;subst ha
    refine⟨rfl,rfl,(q.extract 0 n).data.map fun b=>.int .u8 b.toNat,rfl,?_⟩
    refine aQ.F0 _ _ ?_ (fun i a b ha hb=>?_)
    · simp[A7,ByteArray.data_extract]
    · obtain⟨⟨bs⟩⟩:=q
      simp only[A7] at ha
      rw[←List.map_take,List.getElem?_map] at ha
      have jA:((bs.take n).map fun b=>Value.int .u8 b.toNat)[i]? =some b:=by
        have e:((ByteArray.extract ⟨⟨bs⟩⟩ 0 n).data.map fun b=>Value.int .u8 b.toNat).toList=(bs.take n).map fun b=>Value.int .u8 b.toNat:=by
          simp[ByteArray.data_extract,List.extract]
        rw[←e];exact hb
      rw[List.getElem?_map] at jA
      cases hq:(bs.take n)[i]? with
      |none=>rw[hq] at jA;cases jA
      | some y=>
        rw[hq] at ha jA
        simp only[Option.map_some,Option.some.injEq] at ha jA
        rw[←ha, ←jA];simp[VR]
  |_=>cases h
theorem KA(ha:VR ρ a v)(h:lenOf a=some n):(Builtin.lenOf v).run P w= .ok n w:=by
  cases a with
  | slice p len cap=>
    simp only[lenOf] at h;injection h with h;subst h
    cases p with
    |none=>obtain⟨rfl,rfl,rfl⟩:=jG ha;rfl
    |some p=>obtain⟨m,i⟩:=p;obtain⟨_,_,_,_,_,rfl⟩:=pF ha;rfl
  |str q=>simp only[lenOf] at h;injection h with h;subst h;simp only[VR] at ha;subst ha;rfl
  |_=>cases h
theorem KB(kF:Nat):∀(k c:Nat),c<=kF->Builtin.growBy kF k c<=kF+kF+800
  |0,c,h=>by simp only[Builtin.growBy];omega
  | k + 1,c,h=>by
    simp only[Builtin.growBy]
    by_cases q:c>=kF
    · rw[if_pos q];omega
    · rw [if_neg q]
      by_cases q2:c+(c+768) / 4<=kF
      · exact KB kF k _ q2
      · have:∀k,Builtin.growBy kF k (c+(c+768) / 4)=c+(c+768) / 4:=by
          intro k
          cases k with
          |zero=>rfl
          |succ k=>simp only[Builtin.growBy];rw[if_pos aF]
        rw[this];omega
theorem RH{kF dN:Nat}(h:dN<kF):Builtin.nextslicecap kF dN<=2*kF+4096:=by
 unfold Builtin.nextslicecap
 split
 ·omega
 ·split
  ·omega
  ·have:=KB kF 4 dN aF;omega
theorem Tv{elem:TypeId}{i:TypeInfo}{sv xv:Value}{base:Option Addr}{len c:Nat}{xt:Option TypeId}{args:Array TypeId}{sT:TypeId}{dN new:Array Value}{zv:Value}(hs:sv= .slice base len c)(hu:P.underlying sT=some (.slice elem))(ri:args[0]? =some sT)(rj:args[1]? =xt)(hx:nG P xt=true)(hi:P.info? elem=some i)(hn:(Builtin.lenOf xv).run P w= .ok n w)(cQ:c<len+n)(qO:2*(len+n)*i.bytes+4096*i.bytes<=room)(hb:i.bytes≠0)(ho:(Builtin.firstCells i.size len sv).run P {w with drawn:=w.drawn+1}= .ok dN {w with drawn:=w.drawn+1})(hw:(Builtin.firstCells i.size n xv).run P {w with drawn:=w.drawn+1}= .ok new {w with drawn:=w.drawn+1})(hz:∀w':World,(zeroValue elem).run P w'= .ok zv w'):
    ∃ rest:List Value,∃nc,len+n<=nc/\rest.length=(nc - (len+n))*zv.cells.size/\(Builtin.append_ args 0 #[sv,xv]).run P w=
      .ok (.slice (some ⟨w.heap.size,0,none⟩) (len+n) nc) {w with heap:=w.heap.push (.cells ((dN++new).toList++rest).toArray elem),drawn:=w.drawn+1}:=by
  subst hs
  have aab:=RH cQ
  have hmul:Builtin.nextslicecap (len+n) c*i.bytes<=2 ^ 48:=by
    have:=Nat.mul_le_mul_right i.bytes aab
    have e:(2*(len+n)+4096)*i.bytes=2*(len+n)*i.bytes+4096*i.bytes:=Nat.add_mul _ _ _
    unfold room at qO
    omega
  have hnc:∃nc,len+n<=nc/\(choose (.appendCap (len+n) c elem)).run P w= .ok nc {w with drawn:=w.drawn+1}:=by
    refine⟨len+n+w.tape w.drawn (.appendCap (len+n) c elem) % (2 ^ 63 - (len+n)),by omega,?_⟩
    rw[run_choose]
    simp[Question.forced,Question.cut]
  obtain⟨nc,aac,Ov⟩:=hnc
  refine⟨(Builtin.zeroCells zv.cells (nc - (len+n))).toList,nc,aac,by simp[Builtin.zeroCells],?_⟩
  have hle:¬(len+n<=c):=by omega
  have PX:¬(((len+n:Nat):Int)>IntKind.i64.max/\(False\/i.bytes=0)):=by
    rintro ⟨_,e|e⟩
    · cases e
    · exact hb e
  have GW:¬(Builtin.nextslicecap (len+n) c*i.bytes>2 ^ 48):=by omega
  have cF:∀w':World,(Go.newRow elem (dN++new++Builtin.zeroCells zv.cells (nc - (len+n)))).run P w'= .ok ⟨w'.heap.size,0,none⟩ {w' with heap:=w'.heap.push (.cells ((dN++new).toList++(Builtin.zeroCells zv.cells (nc - (len+n))).toList).toArray elem)}:=by
    intro w'
    have e:((dN++new).toList++(Builtin.zeroCells zv.cells (nc - (len+n))).toList).toArray=dN++new++Builtin.zeroCells zv.cells (nc - (len+n)):=by
      rw[←Array.toList_append]
    rw[e];rfl
  unfold nG at hx
  cases xt with
  | none=>
    simp only[Builtin.append_,ri,rj]
    simp only[show(#[Value.slice base len c,xv]:Array Value)[0]? =some (.slice base len c) from rfl,show(#[Value.slice base len c,xv]:Array Value)[1]? =some xv from rfl]
    simp only[Sem.run_bind,bS hu,Result.andThen_ok,eZ (show dG P elem=some i.size by simp[dG,hi]),Sem.run_pure,Bool.false_eq_true,if_false,hn,if_neg hle,oz hi]
    rw[if_neg PX]
    simp only[Sem.run_bind,oz hi,Result.andThen_ok]
    rw[if_neg GW]
    simp only[Sem.run_bind,Ov,Result.andThen_ok,oz hi,run_askRoom,ho,Bool.not_false,if_true,hw,hz,cF,Sem.run_pure]
  | some q =>
    simp only at hx
    cases e:P.underlying q with
    |none=>rw[e] at hx;cases hx
    | some d=>
      rw[e] at hx
      cases d<;>first
        |(cases hx;done)
        | (simp only[Builtin.append_,ri,rj]
           simp only[show(#[Value.slice base len c,xv]:Array Value)[0]? =some (.slice base len c) from rfl,show(#[Value.slice base len c,xv]:Array Value)[1]? =some xv from rfl]
           simp only[Sem.run_bind,bS hu,Result.andThen_ok,eZ (show dG P elem=some i.size by simp[dG,hi]),Sem.run_pure,bS e,Bool.false_eq_true,if_false,hn,if_neg hle,oz hi]
           rw[if_neg PX]
           simp only[Sem.run_bind,oz hi,Result.andThen_ok]
           rw[if_neg GW]
           simp only[Sem.run_bind,Ov,Result.andThen_ok,oz hi,run_askRoom,ho,Bool.not_false,if_true,hw,hz,cF,Sem.run_pure])
end
end Go.Rn
namespace Go.Rn
open Go.RowKit
variable {n size c:Nat} {elem sT:TypeId} {xv:Value} {xt:Option TypeId} {l:List AV} {i:TypeInfo} {base:Option Addr} {args:Array TypeId}
section
variable {P:Program} {B:aZ} {ρ:Ren} {w:World} {s s1:AS} {x:AV} {call:bf} {t:Tr AV} {ev:Operand->Value} {o:Oper}
theorem BD{len:Nat}{new:Array Value}{w':World}(hu:P.underlying sT=some (.slice elem))(ri:args[0]? =some sT)(rj:args[1]? =xt)(hx:nG P xt=true)(hi:dG P elem=some size)(hn:(Builtin.lenOf xv).run P w= .ok n w)(hle:len+n<=c)(hw:(Builtin.firstCells size n xv).run P w= .ok new w)(kk:(match base with|some a=>storeCells (a.add (len*size)) new.toList|none=>pure ()).run P w= .ok () w'):
    (Builtin.append_ args 0 #[.slice base len c,xv]).run P w= .ok (.slice base (len+n) c) w':=by
  have kI:base=none->w'=w:=by
    intro e;subst e
    have aad:Result.ok () w= .ok () w':=kk
    injection aad with _ e;exact e.symm
  unfold nG at hx
  cases xt with
  | none=>
    simp only[Builtin.append_,ri,rj]
    simp only[show(#[Value.slice base len c,xv]:Array Value)[0]? =some (.slice base len c) from rfl,show(#[Value.slice base len c,xv]:Array Value)[1]? =some xv from rfl]
    simp only[Sem.run_bind,bS hu,Result.andThen_ok,eZ hi,Sem.run_pure,Bool.false_eq_true,if_false,hn,if_pos hle,Bool.not_false,if_true,hw]
    cases base with
    |none=>simp only[Sem.run_pure,kI rfl]
    |some a=>simp only[Sem.run_bind,show(storeCells (a.add (len*size)) new.toList).run P w= .ok () w' from kk,Result.andThen_ok,Sem.run_pure]
  | some q =>
    simp only at hx
    cases e:P.underlying q with
    |none=>rw[e] at hx;cases hx
    | some d=>
      rw[e] at hx
      cases d<;>first
        |(cases hx;done)
        | (simp only[Builtin.append_,ri,rj]
           simp only[show(#[Value.slice base len c,xv]:Array Value)[0]? =some (.slice base len c) from rfl,show(#[Value.slice base len c,xv]:Array Value)[1]? =some xv from rfl]
           simp only[Sem.run_bind,bS hu,Result.andThen_ok,eZ hi,Sem.run_pure,bS e,Bool.false_eq_true,if_false,hn,if_pos hle,Bool.not_false,if_true,hw]
           cases base with
           |none=>simp only[Sem.run_pure,kI rfl]
           |some a=>simp only[Sem.run_bind,show(storeCells (a.add (len*size)) new.toList).run P w= .ok () w' from kk,Result.andThen_ok,Sem.run_pure])
theorem QT(hi:P.info? elem=some i)(h:qv i=true):∃zv,(∀w':World,(zeroValue elem).run P w'= .ok zv w')/\zv.cells.size=i.size:=by
 unfold qv at h
 cases e:i.zero with
 |none=>rw[e] at h;cases h
 |some v=>rw[e] at h;exact⟨v,fun w'=>by simp[zeroValue,oz hi,e],fT.1 h⟩
theorem QU{off:Nat}{vs:List Value}{u:Unit}{b N:Nat}(fi:bY s)(r:Rel B ρ s.h w)(hN:off+l.length<=N)(h:qo n off l s= .ok u s1)(hn:ρ n=some (b,N))(hl:aQ ρ l vs):
    s1.nx=s.nx/\∃w',(storeCells ⟨b,off,none⟩ vs).run P w= .ok () w'/\Rel B ρ s1.h w'/\cU B w w':=by
  cases l with
  | nil=>
    simp only[aQ] at hl;subst hl
    have h':M.pure () s= .ok u s1:=h
    obtain⟨_,rfl⟩:=bW h'
    exact⟨rfl,w,rfl,r,cU.refl _ _⟩
  | cons x l=>
    unfold qo at h
    obtain⟨o,s2,h1,h2⟩:=M.bG h
    obtain⟨hx,hg,hh,dv⟩:=j0 h1
    have ht:n<top:=Nat.lt_of_lt_of_le hx fi.nx
    obtain⟨o',hb,hO,hB⟩:=r.block ht hg hn
    cases o with
    | cells m t z=>
      obtain⟨q1,q2⟩:=dY h2
      obtain⟨q3,q4⟩:=and_true.1 q1
      obtain⟨q5,q6⟩:=and_true.1 q4
      obtain⟨_,_,_,e1,e2⟩:=oM q2
      obtain⟨c,e,rfl,hc,hm,row⟩:=hO
      have hlen:(x::l).length=vs.length:=hl.length
      have h3:off<=m:=bH.1 q3
      have h4:max m (off+(x::l).length)<=top:=bH.1 q5
      have h5:∀y∈x::l,y.ct=true:=fun y hy=>List.all_eq_true.1 q6 y hy
      have kk:=ED (P:=P) (off:=off) (vs:=vs) hb aF (AX hl h5)
      obtain⟨g1,g2⟩:=Ec (cs:=(c.toList.take off++vs++c.toList.drop (off+vs.length)).toArray) hb
      refine⟨by rw[e2,dv],_,kk,?_,g1.below (hB rfl)⟩
      rw[e1,hh]
      refine r.put ht hg rfl rfl hn rfl g1 g2 ?_
      refine⟨_,e,rfl,(size_set aF).trans hc,?_,?_⟩
      · show max m (off+(x::l).length)<=N
        omega
      · have h6:max m (off+(x::l).length)<=c.size:=by omega
        exact Row.set (ρ:=ρ) (c:=c) (n:=m) row hl h5 h3 rfl h6 h4
    |_=>cases h2
theorem EG{sv:Value}{len:Nat}{dN new:List AV}{vo vn:Array Value}(hs:sv= .slice base len c)(hu:P.underlying sT=some (.slice elem))(ri:args[0]? =some sT)(rj:args[1]? =xt)(hx:nG P xt=true)(hi:P.info? elem=some i)(hz:qv i=true)(hn:(Builtin.lenOf xv).run P w= .ok n w)(cQ:c<len+n)(r:Rel B ρ s.h w)(hf:dH s.nx s1.nx ρ)(eY:dN.length=len*i.size)(rk:new.length=n*i.size)(ho:(Builtin.firstCells i.size len sv).run P {w with drawn:=w.drawn+1}= .ok vo {w with drawn:=w.drawn+1})(hw:(Builtin.firstCells i.size n xv).run P {w with drawn:=w.drawn+1}= .ok vn {w with drawn:=w.drawn+1})(PY:aQ ρ dN vo.toList)(xH:aQ ρ new vn.toList)(h:grown i.size i.bytes (len+n) dN new s= .ok x s1):hZ P B ρ s s1 w x (Builtin.append_ args 0 #[sv,xv]):=by
 unfold grown at h
 obtain⟨h1,h2⟩:=dY h
 obtain⟨m,s2,h3,h4⟩:=M.bG h2
 obtain⟨rfl,rfl⟩:=bW h4
 obtain⟨h5,h6⟩:=and_true.1 h1
 have qO:=bH.1 h5
 have hb:i.bytes≠0:=by intro e;rw[e] at h6;simp at h6
 obtain⟨zv,hz1,hz2⟩:=QT (P:=P) hi hz
 obtain⟨rest,nc,g1,g2,g3⟩:=Tv (P:=P) (w:=w) hs hu ri rj hx hi hn cQ qO hb ho hw hz1
 have r1:Rel B ρ s.h {w with drawn:=w.drawn+1}:=r.zr (gh.drew w)
 obtain⟨rfl,k1,σ,k2,k3,k4,k5⟩:=Em (P:=P) elem rest r1 hf h3 (PY.append xH)
 have e:vo.toList++vn.toList++rest=(vo++vn).toList++rest:=by simp
 refine⟨σ,_,_,k2,g3,?_,?_,(gh.trans (gh.drew w) (gh.alloc _ _)).below r.size⟩
 ·simp only[VR]
  refine⟨_,_,nc,k3,rfl,g1,g1,?_⟩
  have e1:=PY.length;have e2:=xH.length
  simp only[List.length_append]
  rw[←e1, ←e2,eY,rk,g2,hz2,Nat.zero_add, ←Nat.add_mul, ←Nat.add_mul]
  exact Nat.le_of_eq (by congr 1;omega)
 ·rw[e] at k5;exact k5
theorem QG{len:Nat}{base:Option (Nat×Nat)}{cap:kT}{v:Value}(fi:bY s)(r:Rel B ρ s.h w)(ha:VR ρ (.slice base len cap) v)(hc:cap≠ .lost)(h:firstCells size len (.slice base len cap) s= .ok l s1):l.length=len*size:=by
  cases base with
  | none=>
    obtain⟨rfl,rfl,rfl⟩:=jG ha
    obtain⟨rfl,rfl⟩:=bW (show(M.pure []:M (List AV)) s= .ok l s1 from h)
    simp
  | some p=>
    obtain⟨m,i⟩:=p
    rw[DY hc] at h
    obtain⟨b,N,q,k,hn,rfl⟩:=pF ha
    exact(rD (P:=(default:Program)) fi r h hn).2.2.1
end
end Go.Rn
namespace Go.Rn
open Go.RowKit
variable {α:Type} {vb va:Value} {v:α} {ts:Array TypeId} {size n:Nat} {s2:AS} {m:M α} {a:AV}
theorem Local.dD(hm:Local m){s s1:AS}(fi:bY s)(h:m s= .ok v s1):bY s1:=by
 obtain⟨dr,dw,d,_⟩:=hm s v s1 fi h;exact d.dD fi
theorem Local.le(hm:Local m){s s1:AS}(fi:bY s)(h:m s= .ok v s1):s.nx<=s1.nx:=by
 obtain⟨dr,dw,d,_⟩:=hm s v s1 fi h;exact d.nx
section
variable {P:Program} {B:aZ} {ρ:Ren} {w:World} {s s1:AS} {x:AV} {call:bf} {t:Tr AV} {ev:Operand->Value} {o:Oper}
theorem hZ.nx{c:Sem Value}(h:hZ P B ρ s2 s1 w x c)(e:s2.nx=s.nx):hZ P B ρ s s1 w x c:=by
 unfold hZ at h ⊢
 rw[e] at h;exact h
theorem JQ{elem sT:TypeId}{len c m b N:Nat}{xv:Value}{xt:Option TypeId}{args:Array TypeId}{dN new:List AV}{vn:Array Value}{p:aE}{bytes:Nat}{vo:List Value}(hu:P.underlying sT=some (.slice elem))(ri:args[0]? =some sT)(rj:args[1]? =xt)(hx:nG P xt=true)(hi:dG P elem=some size)(hn:(Builtin.lenOf xv).run P w= .ok n w)(hle:len+n<=c)(r:Rel B ρ s.h w)(ht:m<top)(hg:s.h.get m=some p)(hp:p.rM=true)(hm:ρ m=some (b,N))(hc:c*size<=N)(hf:dH s.nx s1.nx ρ)(eY:dN.length=len*size)(rk:new.length=n*size)(pv:s2.h=s.h.put m none)(Ag:s2.nx=s.nx)(hw:(Builtin.firstCells size n xv).run P w= .ok vn w)(hold:∀j v,vo[j]? =some v->w.cell? ⟨b,0+j,none⟩=some v)(ho:aQ ρ dN vo)(xH:aQ ρ new vn.toList)(h:grown size bytes (len+n) dN new s2= .ok x s1):hZ P B ρ s s1 w x (Builtin.append_ args 0 #[.slice (some ⟨b,0,none⟩) len c,xv]):=by
  obtain⟨o',hb,hO,hB⟩:=r.block ht hg hm
  cases p with
  | cells k tr z=>
    obtain⟨c0,e0,rfl,iz,hk,row⟩:=hO
    unfold grown at h
    obtain⟨_,h2⟩:=dY h
    obtain⟨q,s3,h3,h4⟩:=M.bG h2
    obtain⟨rfl,rfl⟩:=bW h4
    unfold newRow at h3
    obtain⟨q1,q2⟩:=dY h3
    obtain⟨q3,q4⟩:=and_true.1 q1
    obtain⟨Il,rfl,rfl⟩:=rL q2
    have xc:∀y∈dN++new,y.ct=true:=fun y hy=>List.all_eq_true.1 q4 y hy
    have hlen:(dN++new).length<=top:=bH.1 q3
    have hvl:=xH.length
    have Im:=ho.length
    have hmul:len*size+n*size<=c*size:=by rw[←Nat.add_mul];exact Nat.mul_le_mul_right _ hle
    have qT:len*size+vn.toList.length<=c0.size:=by omega
    have kk:=ED (P:=P) (off:=len*size) (vs:=vn.toList) hb qT (AX xH (fun y hy=>xc y (List.mem_append_right _ hy)))
    obtain⟨g1,g2⟩:=Ec (cs:=(c0.toList.take (len*size)++vn.toList++c0.toList.drop (len*size+vn.toList.length)).toArray) hb
    have GX:=BD (P:=P) (w:=w) (base:=some ⟨b,0,none⟩) hu ri rj hx hi hn hle hw (by
      show(storeCells ((Addr.mk b 0 none).add (len*size)) vn.toList).run P w=_
      rw[Addr.k9,Nat.zero_add];exact kk)
    obtain⟨d1,d2⟩:=r.MX ht hg rfl rfl hm g1
    have kI:ρ s2.nx=none:=hf s2.nx aF (Nat.lt_succ_self _) aF
    refine⟨hY ρ s2.nx (b,N),_,_,?_,GX,?_,?_,g1.below (hB rfl)⟩
    · rw[←Ag];exact Ext.sK kI
    · simp only[VR]
      exact⟨b,N,c,lE _ _ _,rfl,hle,hle,by omega⟩
    · show Rel B _ (s2.h.put s2.nx (some (.cells (dN++new).length (Tr.fill (dN++new) 0 .nil) []))) _
      rw[pv]
      refine d1.name Il kI rfl g2 (fun _=>hB rfl) (fun k' sh=>by
        cases e:ρ (Rn.hn k' b sh) with
        |none=>rfl
        | some x=>
          obtain⟨_,_,_,_,_,_,_,q3,_⟩:=r.fz k' b sh (by rw[e];exact fun h=>by cases h)
          exact absurd hm (q3 m _ N ht hg rfl)) d2 ?_
      refine⟨_,e0,rfl,?_,?_,fun i hi=>?_⟩
      · exact(size_set qT).trans iz
      · simp only[List.length_append];omega
      · simp only[List.length_append] at hi
        obtain⟨a,ha⟩:∃a,(dN++new)[i]? =some a:=⟨(dN++new)[i]'(by simp;exact hi),List.getElem?_eq_getElem _⟩
        have iG:=Ed (l:=dN++new) (i:=i) hlen (by simp;exact hi)
        obtain⟨v,hv,hr⟩:=(ho.append xH).get i a ha
        refine⟨a,v,by rw[iG];exact ha,xc a (List.mem_of_getElem? ha),?_,hr.mono (pL kI)⟩
        simp only[List.getElem?_toArray]
        by_cases q:i<len*size
        · rw[List.getElem?_append_left aF] at hv
          have:=hold i v hv
          simp only[World.cell?,hb,Nat.zero_add] at this
          rw[List.append_assoc,List.getElem?_append_left qd,List.getElem?_take_of_lt q]
          simpa using this
        · rw[List.getElem?_append_right aF] at hv
          have hvi:i - vo.length<vn.toList.length:=(List.getElem?_eq_some_iff.1 hv).1
          rw[List.append_assoc,List.getElem?_append_right qd]
          simp only[List.length_take,Array.length_toList]
          rw[Nat.min_eq_left aF,List.getElem?_append_left aF]
          rw[show i - len*size=i - vo.length from by omega]
          exact hv
  |_=>cases hp
theorem Q4{b:AV}(ha:VR ρ a va)(hb:VR ρ b vb)(fi:bY s)(r:Rel B ρ s.h w)(hf:dH s.nx s1.nx ρ)(h:pH P ts a b s= .ok x s1):
    hZ P B ρ s s1 w x (Builtin.append_ ts 0 #[va,vb]):=by
  unfold pH at h
  obtain⟨sT,h1,h⟩:=ch h
  cases e1:P.underlying sT with
  |none=>simp only[e1] at h;cases h
  | some d=>
    cases d<;>simp only[e1] at h<;>first|(cases h;done)|skip
    rename_i elem
    cases a<;>simp only at h<;>first|(cases h;done)|skip
    rename_i base len cap _
    obtain⟨i,h2,h⟩:=ch h
    obtain⟨h3,h⟩:=dY h
    obtain⟨hz,hx⟩:=and_true.1 h3
    obtain⟨n,h4,h⟩:=ch h
    obtain⟨new,s2,h5,h⟩:=M.bG h
    obtain⟨h6,h⟩:=dY h
    have rk:=fT.1 h6
    have hi:dG P elem=some i.size:=by simp[dG,h2]
    obtain⟨k1,k2,vn,k3,k4⟩:=AU (P:=P) hb fi r h5
    have rd:Rel B ρ s.h {w with drawn:=w.drawn+1}:=r.zr (gh.drew w)
    obtain⟨_,_,vn',Dj,Dk⟩:=AU (P:=P) hb fi rd h5
    have hn:=KA (P:=P) (w:=w) hb h4
    have gz:bY s2:=(Local.firstCells _ _ _).dD fi h5
    have r2:Rel B ρ s2.h w:=by rw[k1];exact r
    have gM:Rel B ρ s2.h {w with drawn:=w.drawn+1}:=by rw[k1];exact rd
    unfold rJ at h
    cases cap with
    |lost=>cases h
    | known c=>
      simp only at h
      cases q:Nat.ble (len+n) c with
      | true=>
        simp only[q] at h
        have hle:=bH.1 q
        obtain⟨u,s3,h7,h8⟩:=M.bG h
        obtain⟨rfl,rfl⟩:=bW h8
        cases base with
        | none=>
          obtain⟨rfl,rfl⟩:=bW h7
          obtain⟨rfl,hc,rfl⟩:=jG ha
          cases hc
          have xG:n=0:=by omega
          subst xG
          refine⟨ρ,w,_,by rw[k2];exact Ext.refl _ _ _,BD (P:=P) (w:=w) (base:=none) e1 h1 rfl hx hi hn hle k3 rfl,?_,r2,cU.refl _ _⟩
          simp[VR]
        | some p=>
          obtain⟨m,j⟩:=p
          have qg:=ha
          simp only[VR] at qg
          obtain⟨bb,N,hm,rfl⟩:=qg
          obtain⟨g1,w',g2,g3,g4⟩:=AT (P:=P) gz r2 h7 hm k4
          refine⟨ρ,w',_,by rw[g1,k2];exact Ext.refl _ _ _,BD (P:=P) (w:=w) (base:=some ⟨bb,j,none⟩) e1 h1 rfl hx hi hn hle k3 (by
            show(storeCells ((Addr.mk bb j none).add (len*i.size)) vn.toList).run P w=_
            rw[Addr.k9];exact g2),?_,g3,g4⟩
          simp only[VR];exact⟨bb,N,hm,rfl⟩
      | false=>
        simp only[q] at h
        have cQ:c<len+n:=by
          rcases Nat.lt_or_ge c (len+n) with e|e
          · exact e
          · rw[bH.2 e] at q;cases q
        obtain⟨dN,s3,h7,h8⟩:=M.bG h
        obtain⟨j1,j2,vo,j3,j4⟩:=AU (P:=P) ha gz gM h7
        have Im:=QG gz r2 ha (by intro e;cases e) h7
        have:∃ND:Option Addr,va= .slice ND len c:=by
          cases base with
          |none=>obtain⟨rfl,hc,rfl⟩:=jG ha;cases hc;exact⟨_,rfl⟩
          |some p=>obtain⟨m,j⟩:=p;simp only[VR] at ha;obtain⟨_,_,_,rfl⟩:=ha;exact⟨_,rfl⟩
        obtain⟨ND,hva⟩:=this
        refine hZ.nx (s2:=s3) (EG (P:=P) hva e1 h1 rfl hx h2 hz hn cQ (by rw[j1];exact r2) (by rw[j2,k2];exact hf) Im rk j3 Dj j4 Dk h8) (by rw[j2,k2])
    | aX lo sz=>
      obtain⟨h7,h⟩:=dY h
      have:=fT.1 h7
      subst this
      cases q:Nat.ble (len+n) lo with
      | true=>
        simp only[q] at h
        have hle:=bH.1 q
        cases base with
        |none=>cases h
        | some p=>
          obtain⟨m,j⟩:=p
          simp only at h
          obtain⟨u,s3,h8,h9⟩:=M.bG h
          obtain⟨rfl,rfl⟩:=bW h9
          have qg:=ha
          simp only[VR] at qg
          obtain⟨bb,N,c,hm,rfl,eY,Dl,hN⟩:=qg
          have qT:j+len*i.size+new.length<=N:=by
            have:(len+n)*i.size<=c*i.size:=Nat.mul_le_mul_right _ aF
            rw[Nat.add_mul] at this
            omega
          obtain⟨g1,w',g2,g3,g4⟩:=QU (P:=P) gz r2 qT h8 hm k4
          refine⟨ρ,w',_,by rw[g1,k2];exact Ext.refl _ _ _,BD (P:=P) (w:=w) (base:=some ⟨bb,j,none⟩) e1 h1 rfl hx hi hn aF k3 (by
            show(storeCells ((Addr.mk bb j none).add (len*i.size)) vn.toList).run P w=_
            rw[Addr.k9];exact g2),?_,g3,g4⟩
          simp only[VR];exact⟨bb,N,c,hm,rfl,eY,by omega,hN⟩
      | false =>
        simp only[q] at h
        cases base with
        |none=>cases h
        | some p=>
          obtain⟨m,j⟩:=p
          cases j with
          |succ j=>cases h
          | zero=>
            simp only at h
            obtain⟨dN,s3,h8,h⟩:=M.bG h
            obtain⟨ob,s4,h9,h⟩:=M.bG h
            obtain⟨eA,h⟩:=dY h
            obtain⟨u,s5,nf,ij⟩:=M.bG h
            have qg:=ha
            simp only[VR] at qg
            obtain⟨bb,N,c,hm,rfl,eY,Dl,hN⟩:=qg
            obtain⟨j1,j2,j3,j4,vo,j5,j6,j7⟩:=rD (P:=P) gz r2 h8 hm
            obtain⟨_,_,_,_,vo',Io,Ip,_⟩:=rD (P:=P) gz gM h8 hm
            obtain⟨i1,i2,i3,i4⟩:=j0 h9
            obtain⟨i5,i6,i7,i8,i9⟩:=oM nf
            have hh:s4.h=s2.h:=i3.trans j1
            have dv:s4.nx=s.nx:=(i4.trans j2).trans k2
            by_cases hq:len+n<=c
            · refine hZ.nx (s2:=s2) ?_ k2
              refine JQ (P:=P) (s:=s2) (s2:=s5) (p:=ob) (vo:=vo) e1 h1 rfl hx hi hn hq r2 i6 (by rw[←j1];exact i2) eA hm aF (by rw[k2];exact hf) j3 rk (by rw[i8,hh]) (by rw[i9,dv,k2]) k3 j7 j6 k4 ij
            · have Iq:s4.h.get m≠some .sk:=by
                intro e
                rw[i3,i2] at e
                injection e with e;subst e;cases eA
              refine hZ.nx (s2:=s5) (EG (P:=P) rfl e1 h1 rfl hx h2 hz hn aF (by rw[i8];exact Rel.drop (by rw[hh];exact r2) i6 Iq) (by rw[i9,dv];exact hf) j3 rk (by simpa[Builtin.firstCells] using Io) Dj (by simpa using Ip) Dk ij) (by rw[i9,dv])
theorem Jw{o k:Nat}{v:Value}{l:List AV}{call:bf}(cF:tQ B call)(ht:top<=n)(hb:VR ρ (.ae n o k) v)(fi:bY s)(r:Rel B ρ s.h w)(h:qw call n o (k*size) s= .ok l s1):
  s1.h=s.h/\s1.nx=s.nx/\l.length=k*size/\(Builtin.lenOf v).run P w= .ok k w/\∃arr:Array Value,(Builtin.firstCells size k v).run P w= .ok arr w/\aQ ρ l arr.toList:=by
 unfold qw at h
 obtain⟨x,s2,h1,h2⟩:=M.bG h
 split at h2<;>first|(cases h2;done)|skip
 rename_i l'
 obtain⟨h3,h4⟩:=dY h2
 obtain⟨rfl,rfl⟩:=bW h4
 obtain⟨a1,a2,a3⟩:=cF _ _ _ _ _ _ _ _ fi r h1
 have hlen:=fT.1 h3
 refine⟨a1,a2,hlen,?_⟩
 simp only[VR] at hb
 rcases hb with⟨_,rfl,a0,c,rfl⟩|⟨b,sh,c,e,rfl,_⟩
 ·have:l=[]:=List.eq_nil_of_length_eq_zero (by rw[hlen,Nat.zero_mul])
  subst this
  refine⟨rfl, #[],?_,by simp[aQ]⟩
  cases a0<;>simp[Builtin.firstCells,loadCells,loadCellsFrom]
 ·obtain⟨l2,vs,e2,e3,e4,c',et,fr,e5,e6⟩:=a3 b sh (e.high ht)
  injection e2 with e2
  subst e2
  have y4:=Bj (P:=P) (w:=w) e5 e6
  rw[e3] at y4
  exact⟨rfl,vs.toArray,by simpa[Builtin.firstCells] using y4,by simpa using e4⟩
theorem Ri{n0 o0 k0:Nat}{call:bf}(cF:tQ B call)(hl:∀t a,Local (call t a))(ha:VR ρ a va)(hb:VR ρ (.ae n0 o0 k0) vb)(fi:bY s)(r:Rel B ρ s.h w)(hf:dH s.nx s1.nx ρ)(h:tD P call ts a n0 o0 k0 s= .ok x s1):
    hZ P B ρ s s1 w x (Builtin.append_ ts 0 #[va,vb]):=by
  unfold tD at h
  obtain⟨ng,h⟩:=dY h
  have ng:=bH.1 ng
  obtain⟨sT,h1,h⟩:=ch h
  cases e1:P.underlying sT with
  |none=>simp only[e1] at h;cases h
  | some d=>
    cases d<;>simp only[e1] at h<;>first|(cases h;done)|skip
    rename_i elem
    obtain⟨m,len,cap,rfl⟩:∃m len cap,a= .slice (some (m,0)) len cap:=by
      cases a with
      | slice base len cap=>
        cases base with
        |none=>cases h
        | some p=>
          obtain⟨m,j⟩:=p
          cases j with
          |succ j=>cases h
          |zero=>exact⟨m,len,cap,rfl⟩
      |_=>cases h
    obtain⟨i,h2,h⟩:=ch h
    obtain⟨h3,h⟩:=dY h
    obtain⟨hz,hx⟩:=and_true.1 h3
    obtain⟨aT,h⟩:=dY h
    obtain⟨new,s2,h5,h⟩:=M.bG h
    have hi:dG P elem=some i.size:=by simp[dG,h2]
    obtain⟨k1,k2,rk,hn,vn,k3,k4⟩:=Jw (P:=P) cF ng hb fi r h5
    have rd:Rel B ρ s.h {w with drawn:=w.drawn+1}:=r.zr (gh.drew w)
    obtain⟨_,_,_,_,vn',Dj,Dk⟩:=Jw (P:=P) cF ng hb fi rd h5
    have gz:bY s2:=(Local.qw hl _ _ _).dD fi h5
    have r2:Rel B ρ s2.h w:=by rw[k1];exact r
    have gM:Rel B ρ s2.h {w with drawn:=w.drawn+1}:=by rw[k1];exact rd
    have qg:∃bb N c,ρ m=some (bb,N)/\va= .slice (some ⟨bb,0,none⟩) len c/\len<=c/\0+c*i.size<=N:=by
      cases cap with
      |lost=>cases aT
      | known c=>
        obtain⟨q1,q2⟩:=and_true.1 aT
        have q1:=fT.1 q1;have q2:=fT.1 q2
        subst q1;subst q2
        simp only[VR] at ha
        obtain⟨bb,N,e,hv⟩:=ha
        exact⟨bb,N,0,e,hv,Nat.le_refl _,by omega⟩
      | aX lo sz=>
        have:=fT.1 aT
        subst this
        simp only[VR] at ha
        obtain⟨bb,N,c,hm,hv,_,Dl,hN⟩:=ha
        exact⟨bb,N,c,hm,hv,Dl,hN⟩
    obtain⟨bb,N,c,hm,rfl,Dl,hN⟩:=qg
    obtain⟨dN,s3,h8,h⟩:=M.bG h
    obtain⟨ob,s4,h9,h⟩:=M.bG h
    obtain⟨eA,h⟩:=dY h
    obtain⟨u,s5,nf,ij⟩:=M.bG h
    obtain⟨j1,j2,j3,j4,vo,j5,j6,j7⟩:=rD (P:=P) gz r2 h8 hm
    obtain⟨_,_,_,_,vo',Io,Ip,_⟩:=rD (P:=P) gz gM h8 hm
    obtain⟨i1,i2,i3,i4⟩:=j0 h9
    obtain⟨i5,i6,i7,i8,i9⟩:=oM nf
    have hh:s4.h=s2.h:=i3.trans j1
    have dv:s4.nx=s.nx:=(i4.trans j2).trans k2
    by_cases hq:len+k0<=c
    · refine hZ.nx (s2:=s2) ?_ k2
      refine JQ (P:=P) (s:=s2) (s2:=s5) (p:=ob) (vo:=vo) e1 h1 rfl hx hi hn hq r2 i6 (by rw[←j1];exact i2) eA hm aF (by rw[k2];exact hf) j3 rk (by rw[i8,hh]) (by rw[i9,dv,k2]) k3 j7 j6 k4 ij
    · have Iq:s4.h.get m≠some .sk:=by
        intro e
        rw[i3,i2] at e
        injection e with e;subst e;cases eA
      refine hZ.nx (s2:=s5) (EG (P:=P) rfl e1 h1 rfl hx h2 hz hn aF (by rw[i8];exact Rel.drop (by rw[hh];exact r2) i6 Iq) (by rw[i9,dv];exact hf) j3 rk (by simpa[Builtin.firstCells] using Io) Dj (by simpa using Ip) Dk ij) (by rw[i9,dv])
end
end Go.Rn
namespace Go.Rn
open Go.RowKit
variable {ts:Array TypeId} {va:Value} {a:AV} {vs:Array Value} {ty:TypeId} {consts:Array Bool} {b:Builtin}
section
variable {P:Program} {B:aZ} {ρ:Ren} {w:World} {s s1:AS} {x:AV} {call:bf} {t:Tr AV} {ev:Operand->Value} {o:Oper}
theorem RI{b:AV}{vb:Value}(ha:VR ρ a va)(hb:VR ρ b vb)(fi:bY s)(r:Rel B ρ s.h w)(h:rR P ts a b s= .ok x s1):
    hZ P B ρ s s1 w x (Builtin.copy_ ts 0 #[va,vb]):=by
  unfold rR at h
  obtain⟨sT,h1,h⟩:=ch h
  cases e1:P.underlying sT with
  |none=>simp only[e1] at h;cases h
  | some d=>
    cases d<;>simp only[e1] at h<;>first|(cases h;done)|skip
    rename_i elem
    cases a<;>simp only at h<;>first|(cases h;done)|skip
    rename_i base len cap _
    obtain⟨k,h2,h⟩:=ch h
    obtain⟨n,h3,h⟩:=ch h
    obtain⟨h4,h⟩:=dY h
    obtain⟨cells,s2,h5,h⟩:=M.bG h
    obtain⟨u,s3,h6,h7⟩:=M.bG h
    obtain⟨rfl,rfl⟩:=bW h7
    have hn:=KA (P:=P) (w:=w) hb h3
    obtain⟨k1,k2,vn,k3,k4⟩:=AU (P:=P) hb fi r h5
    have gz:bY s2:=(Local.firstCells _ _ _).dD fi h5
    have r2:Rel B ρ s2.h w:=by rw[k1];exact r
    cases base with
    | none=>
      obtain⟨_,rfl⟩:=bW h6
      obtain⟨rfl,hc,rfl⟩:=jG ha
      refine⟨ρ,w,.int .i64 (Nat.min n 0:Nat),by rw[k2];exact Ext.refl _ _ _,?_,by simp only[VR],r2,cU.refl _ _⟩
      simp only[Builtin.copy_,h1,show(#[Value.slice none 0 0,vb]:Array Value)[0]? =some (.slice none 0 0) from rfl,show(#[Value.slice none 0 0,vb]:Array Value)[1]? =some vb from rfl,
        Sem.run_bind,bS e1,Result.andThen_ok,hn,eZ h2,k3,Sem.run_pure,goInt]
    | some p=>
      obtain⟨m,i⟩:=p
      have hq:∃bb N c,ρ m=some (bb,N)/\va= .slice (some ⟨bb,i,none⟩) len c:=by
        cases cap with
        |known c=>simp only[VR] at ha;obtain⟨bb,N,e,rfl⟩:=ha;exact⟨bb,N,c,e,rfl⟩
        |aX lo e0=>simp only[VR] at ha;obtain⟨bb,N,c,e,rfl,_⟩:=ha;exact⟨bb,N,c,e,rfl⟩
        |lost=>cases h4
      obtain⟨bb,N,c,hm,rfl⟩:=hq
      obtain⟨g1,w',g2,g3,g4⟩:=AT (P:=P) gz r2 h6 hm k4
      refine⟨ρ,w',.int .i64 (Nat.min n len:Nat),by rw[g1,k2];exact Ext.refl _ _ _,?_,by simp only[VR],g3,g4⟩
      simp only[Builtin.copy_,h1,show(#[Value.slice (some ⟨bb,i,none⟩) len c,vb]:Array Value)[0]? =some (.slice (some ⟨bb,i,none⟩) len c) from rfl,show(#[Value.slice (some ⟨bb,i,none⟩) len c,vb]:Array Value)[1]? =some vb from rfl,
        Sem.run_bind,bS e1,Result.andThen_ok,hn,eZ h2,k3,Sem.run_pure,goInt,g2]
theorem RJ(ha:VR ρ a va)(fi:bY s)(r:Rel B ρ s.h w)(h:rU P ts a s= .ok x s1):
    hZ P B ρ s s1 w x (Builtin.clear_ ts 0 #[va]):=by
  unfold rU at h
  have h9:=M.bG h
  clear h
  obtain⟨sT,s0,h0,h⟩:=h9
  obtain⟨h1,xI⟩:=gq h0
  clear h0
  subst xI
  cases e1:P.underlying sT with
  |none=>simp only[e1] at h;cases h
  | some d=>
    cases d<;>simp only[e1] at h<;>first|(cases h;done)|skip
    rename_i elem
    cases a<;>first|(cases h;done)|skip
    rename_i base len cap
    cases base with
    | none=>
      obtain⟨rfl,rfl⟩:=bW h
      obtain⟨rfl,hc,rfl⟩:=jG ha
      refine⟨ρ,w,undef,Ext.refl _ _ _,?_,VR.undef _,r,cU.refl _ _⟩
      simp only[Builtin.clear_,h1,show(#[Value.slice none 0 0]:Array Value)[0]? =some (.slice none 0 0) from rfl,Sem.run_bind,bS e1,Result.andThen_ok,Sem.run_pure]
      rfl
    | some p=>
      obtain⟨m,i⟩:=p
      obtain⟨_,s2,h2,ha2⟩:=M.bG h
      obtain⟨z,s3,h3,ha3⟩:=M.bG ha2
      obtain⟨h4,Ag⟩:=gq h3
      obtain⟨u,s4,h5,h6⟩:=M.bG ha3
      obtain⟨rfl,rfl⟩:=bW h6
      have hs:s3=s0:=by
        rw[Ag]
        cases cap<;>first|(cases h2;done)|(obtain⟨_,e⟩:=bW (show M.pure () s0= .ok _ s2 from h2);exact e)
      rw[hs] at h5
      have hq:∃bb N c,ρ m=some (bb,N)/\va= .slice (some ⟨bb,i,none⟩) len c:=by
        cases cap with
        |known c=>simp only[VR] at ha;obtain⟨bb,N,e,rfl⟩:=ha;exact⟨bb,N,c,e,rfl⟩
        |aX lo e0=>simp only[VR] at ha;obtain⟨bb,N,c,e,rfl,_⟩:=ha;exact⟨bb,N,c,e,rfl⟩
        |lost=>cases h2
      obtain⟨bb,N,c,hm,rfl⟩:=hq
      obtain⟨vz,g1,g2⟩:=ya (P:=P) (w:=w) ρ h4
      have aae:=D5 (ρ:=ρ) g2.cells len
      obtain⟨k1,w',k2,k3,k4⟩:=AT (P:=P) fi r h5 hm aae
      refine⟨ρ,w',undef,by rw[k1];exact Ext.refl _ _ _,?_,VR.undef _,k3,k4⟩
      have aaf:(Builtin.zeroCells vz.cells len).toList=(List.replicate len vz.cells.toList).flatten:=by
        unfold Builtin.zeroCells;rw[J6]
      cases len with
      | zero=>
        simp only[List.replicate,List.flatten_nil] at k2
        have Ir:Result.ok () w=Result.ok () w':=k2
        injection Ir with _ Ir
        simp only[Builtin.clear_,h1,show(#[Value.slice (some ⟨bb,i,none⟩) 0 c]:Array Value)[0]? =some (.slice (some ⟨bb,i,none⟩) 0 c) from rfl,Sem.run_bind,bS e1,Result.andThen_ok,Sem.run_pure,Ir]
        rfl
      | succ len=>
        simp only[Builtin.clear_,h1,show(#[Value.slice (some ⟨bb,i,none⟩) (len+1) c]:Array Value)[0]? =some (.slice (some ⟨bb,i,none⟩) (len+1) c) from rfl,Sem.run_bind,bS e1,Result.andThen_ok,Sem.run_pure,g1,aaf,k2]
        rfl
theorem RK{m:Nat}{es:List (AV×AV)}{b N:Nat}(fi:bY s)(r:Rel B ρ s.h w)(h:rS m s= .ok es s1)(hm:ρ m=some (b,N)):
    s1.h=s.h/\s1.nx=s.nx/\∃l ak,w.heap[b]? =some (.map l ak)/\uU ρ es l.toList/\(jY es\/fw ρ es l.toList):=by
  unfold rS at h
  obtain⟨ob,s2,h1,h2⟩:=M.bG h
  obtain⟨hx,hg,hh,dv⟩:=j0 h1
  have ht:m<top:=Nat.lt_of_lt_of_le hx fi.nx
  obtain⟨o',hb,hO,_⟩:=r.block ht hg hm
  cases ob with
  | map kj ak=>
    obtain⟨rfl,rfl⟩:=bW h2
    obtain⟨l,rfl,_,k⟩:=hO
    exact⟨hh,dv,l,ak,hb,⟨_,List.Perm.refl _,k.eqs⟩,.inr k.eqs⟩
  | mH kj=>
    obtain⟨rfl,rfl⟩:=bW h2
    obtain⟨l,ak,rfl,ka,_,k⟩:=hO
    exact⟨hh,dv,l,ak,hb,k,.inl ka⟩
  |_=>cases h2
theorem fw.length:∀{x:List (AV×AV)} {l:List MapEntry},fw ρ x l->x.length=l.length
 |[],l,k=>by have k':l=[]:=k;subst k';rfl
 |_::_,_,k=>by obtain⟨e,es,rfl,_,_,d⟩:=k;simp[fw.length d]
theorem Tw(ha:VR ρ a va)(fi:bY s)(r:Rel B ρ s.h w)(h:sl P ts a s= .ok x s1):
    hZ P B ρ s s1 w x (Builtin.len_ ts 0 #[va]):=by
  unfold sl at h
  have h9:=M.bG h
  clear h
  obtain⟨sT,s0,h0,h⟩:=h9
  obtain⟨h1,xI⟩:=gq h0
  clear h0
  subst xI
  have sL:(#[va]:Array Value)[0]? =some va:=rfl
  cases e1:P.underlying sT with
  |none=>simp only[e1] at h;cases h
  | some d=>
    have fin:∀n:Nat,(Builtin.len_ ts 0 #[va]).run P w= .ok (goInt n) w->x= .int .i64 n->s1.h=s0.h->s1.nx=s0.nx->hZ P B ρ s0 s1 w x (Builtin.len_ ts 0 #[va]):=by
      intro n hr hx hh dv
      subst hx
      exact⟨ρ,w,_,by rw[dv];exact Ext.refl _ _ _,hr,by simp only[VR,goInt],by rw[hh];exact r,cU.refl _ _⟩
    cases d<;>simp only[e1] at h<;>first|(cases h;done)|skip
    case string=>
      cases a<;>first|(cases h;done)|skip
      case str q=>
        obtain⟨rfl,rfl⟩:=bW h
        simp only[VR] at ha;subst ha
        refine fin _ ?_ rfl rfl rfl
        simp only[Builtin.len_,h1,sL,Sem.run_bind,bS e1,Result.andThen_ok,Sem.run_pure]
      case w9 q=>
        obtain⟨rfl,rfl⟩:=bW h
        simp only[VR] at ha;subst ha
        have lR:(⟨(List.replicate q (0:UInt8)).toArray⟩:ByteArray).size=q:=by simp[ByteArray.size]
        refine fin _ ?_ rfl rfl rfl
        simp only[Builtin.len_,h1,sL,Sem.run_bind,bS e1,Result.andThen_ok,Sem.run_pure,lR]
    case array n e=>
      obtain⟨rfl,rfl⟩:=bW h
      refine fin _ ?_ rfl rfl rfl
      simp only[Builtin.len_,h1,sL,Sem.run_bind,bS e1,Result.andThen_ok,Sem.run_pure]
    case pointer pt=>
      cases e2:P.underlying pt with
      |none=>simp only[e2] at h;cases h
      | some d=>
        cases d<;>simp only[e2] at h<;>first|(cases h;done)|skip
        obtain⟨rfl,rfl⟩:=bW h
        refine fin _ ?_ rfl rfl rfl
        simp only[Builtin.len_,h1,sL,Sem.run_bind,bS e1,bS e2,Result.andThen_ok,Sem.run_pure]
    case slice e=>
      cases a<;>first|(cases h;done)|skip
      case slice base len cap=>
        obtain⟨rfl,rfl⟩:=bW h
        have:∃p c,va= .slice p len c:=by
          cases base with
          |none=>obtain⟨rfl,_,rfl⟩:=jG ha;exact⟨_,_,rfl⟩
          |some p=>obtain⟨m,j⟩:=p;obtain⟨_,_,_,_,_,rfl⟩:=pF ha;exact⟨_,_,rfl⟩
        obtain⟨p,c,rfl⟩:=this
        refine fin _ ?_ rfl rfl rfl
        simp only[Builtin.len_,h1,sL,Sem.run_bind,bS e1,Result.andThen_ok,Sem.run_pure]
      case ae n o len=>
        obtain⟨rfl,rfl⟩:=bW h
        simp only[VR] at ha
        rcases ha with⟨_,rfl,_,_,rfl⟩|⟨b,sh,c,_,rfl,_⟩<;>
        (refine fin _ ?_ rfl rfl rfl
         simp only[Builtin.len_,h1,sL,Sem.run_bind,bS e1,Result.andThen_ok,Sem.run_pure])
    case map kt et=>
      cases a<;>first|(cases h;done)|skip
      rename_i m
      cases m with
      | none=>
        obtain⟨rfl,rfl⟩:=bW h
        simp only[VR] at ha;subst ha
        refine fin 0 ?_ rfl rfl rfl
        simp only[Builtin.len_,h1,sL,Sem.run_bind,bS e1,Result.andThen_ok,Sem.run_pure]
        rfl
      | some m=>
        obtain⟨es,s2,h2,h3⟩:=M.bG h
        obtain⟨rfl,rfl⟩:=bW h3
        simp only[VR] at ha
        obtain⟨b,N,hm,rfl⟩:=ha
        obtain⟨g1,g2,l,ak,g3,⟨l',g4,g5⟩,_⟩:=RK fi r h2 hm
        refine fin _ ?_ rfl g1 g2
        have hl:l.size=es.length:=by rw[g5.length, ←g4.length_eq];simp
        simp only[Builtin.len_,h1,sL,Sem.run_bind,bS e1,Result.andThen_ok,Sem.run_pure,MapKept.run_getObj_map g3,hl]
theorem E2{f:AV->AV->Option AV}{g:Value->Value->Sem Value}(hf:∀a b c va vb,f a b=some c->VR ρ a va->VR ρ b vb->∃vc,(g va vb).run P w= .ok vc w/\VR ρ c vc):
    ∀{l:List AV} {vs:List Value} {a c:AV} {va:Value},wA f l a=some c->aQ ρ l vs->VR ρ a va->∃vc,(vs.foldlM g va).run P w= .ok vc w/\VR ρ c vc
  | [],vs,a,c,va,h,hl,ha=>by
    simp only[aQ] at hl;subst hl
    simp only[wA] at h;injection h with h;subst h
    exact⟨va,rfl,ha⟩
  | y ::l,vs,a,c,va,h,hl,ha=>by
    simp only[aQ] at hl;obtain⟨v,ys,rfl,hv,hl⟩:=hl
    simp only[wA] at h
    cases e:f a y with
    |none=>rw[e] at h;cases h
    | some z=>
      simp only[e] at h
      obtain⟨vz,g1,g2⟩:=hf a y z va v e ha hv
      obtain⟨vc,g3,g4⟩:=E2 hf h hl g2
      exact⟨vc,by simp only[List.foldlM_cons,Sem.run_bind,g1,Result.andThen_ok,g3],g4⟩
theorem Tx(a b c:AV)(va vb:Value)(h:min2 a b=some c)(ha:VR ρ a va)(hb:VR ρ b vb):∃vc,(Builtin.min2 va vb).run P w= .ok vc w/\VR ρ c vc:=by
 unfold min2 at h
 split at h
 ·rename_i k x k2 y
  injection h with h;subst h
  simp only[VR] at ha hb;subst ha;subst hb
  refine⟨_,rfl,?_⟩
  simp only[VR]
  by_cases q:y<x<;>simp[q]
 ·cases h
theorem Ty(a b c:AV)(va vb:Value)(h:max2 a b=some c)(ha:VR ρ a va)(hb:VR ρ b vb):∃vc,(Builtin.max2 va vb).run P w= .ok vc w/\VR ρ c vc:=by
 unfold max2 at h
 split at h
 ·rename_i k x k2 y
  injection h with h;subst h
  simp only[VR] at ha hb;subst ha;subst hb
  refine⟨_,rfl,?_⟩
  simp only[VR]
  by_cases q:y>x<;>simp[q]
 ·cases h
theorem Q5{l:List AV}(hl:aQ ρ l vs.toList)(fi:bY s)(r:Rel B ρ s.h w)(hf:dH s.nx s1.nx ρ)(h:rK P b ts l s= .ok x s1):fB P B ρ s s1 w x (Go.builtin b ts ty consts vs):=by
 obtain⟨vs⟩:=vs
 unfold rK at h
 split at h
 ·rename_i y
  simp only[aQ] at hl;obtain⟨v,ys,rfl,hv,rfl⟩:=hl
  exact(Tw hv fi r h).op
 ·rename_i y z
  simp only[aQ] at hl;obtain⟨v,ys,rfl,hv,v2,PZ,rfl,Ah,rfl⟩:=hl
  exact(Q4 hv Ah fi r hf h).op
 ·rename_i y z
  simp only[aQ] at hl;obtain⟨v,ys,rfl,hv,v2,PZ,rfl,Ah,rfl⟩:=hl
  exact(RI hv Ah fi r h).op
 ·rename_i y
  simp only[aQ] at hl;obtain⟨v,ys,rfl,hv,rfl⟩:=hl
  exact(RJ hv fi r h).op
 ·rename_i y z
  simp only[aQ] at hl;obtain⟨v,ys,rfl,hv,hl⟩:=hl
  obtain⟨h1,rfl⟩:=gq h
  obtain⟨vc,g1,g2⟩:=E2 (P:=P) (w:=w) Tx h1 hl hv
  exact hZ.op (c:=Builtin.min_ ts ty ⟨v::ys⟩) ⟨ρ,w,vc,Ext.refl _ _ _,g1,g2,r,cU.refl _ _⟩
 ·rename_i y z
  simp only[aQ] at hl;obtain⟨v,ys,rfl,hv,hl⟩:=hl
  obtain⟨h1,rfl⟩:=gq h
  obtain⟨vc,g1,g2⟩:=E2 (P:=P) (w:=w) Ty h1 hl hv
  exact hZ.op (c:=Builtin.max_ ts ty ⟨v::ys⟩) ⟨ρ,w,vc,Ext.refl _ _ _,g1,g2,r,cU.refl _ _⟩
 ·cases h
theorem RL{y:AV}{n q k:Nat}(cF:tQ B call)(It:∀t a,Local (call t a))(hl:aQ ρ [y,.ae n q k] vs.toList)(fi:bY s)(r:Rel B ρ s.h w)(hf:dH s.nx s1.nx ρ)(h:tD P call ts y n q k s= .ok x s1):fB P B ρ s s1 w x (Go.builtin .append ts ty consts vs):=by
 obtain⟨vs⟩:=vs
 simp only[aQ] at hl
 obtain⟨v,ys,rfl,hv,hl⟩:=hl
 obtain⟨v2,PZ,rfl,Ah,rfl⟩:=hl
 exact(Ri cF It hv Ah fi r hf h).op
theorem Q6{args:Array Operand}(cF:tQ B call)(It:∀t a,Local (call t a))(he:∀x v,aR t x=some v->VR ρ v (ev x))(fi:bY s)(r:Rel B ρ s.h w)(hf:dH s.nx s1.nx ρ)(h:oJ P b ts args.toList call t s= .ok x s1)(ho:o.op= .call ⟨.builtin b,args,ts⟩):fB P B ρ s s1 w x (execOp ev o):=by
 unfold oJ at h
 obtain⟨vs,h1,h2⟩:=ch h
 have hl:=vW he h1
 have key:(∃y n q k,b= .append/\vs=[y,.ae n q k]/\tD P call ts y n q k s= .ok x s1)\/rK P b ts vs s= .ok x s1:=by
  split at h2
  ·exact .inl ⟨_,_,_,_,rfl,rfl,h2⟩
  ·exact .inr h2
 have all:∀consts:Array Bool,fB P B ρ s s1 w x (Go.builtin b ts o.type consts (args.map ev)):=fun consts=>by
  rcases key with⟨y,n,q,k,rfl,rfl,h2⟩|h2
  ·exact RL cF It (by simpa using hl) fi r hf h2
  ·exact Q5 (vs:=args.map ev) (by simpa using hl) fi r hf h2
 have:=all (args.map fun| .const _=>true|_=>false)
 obtain⟨σ,w',nv,a1,a2,a3⟩:=this
 refine⟨σ,w',nv,a1,?_,a3⟩
 simp only[execOp,ho,resolve,Sem.run_bind,Sem.run_pure,Result.andThen_ok,invoke]
 exact a2
end
end Go.Rn
namespace Go.Rn
open Go.RowKit
variable {key a:AV} {v:Value} {k:TypeId} {kd:TypeDesc} {r:Option (Nat×AV)} {l:List MapEntry} {es:List (AV×AV)} {em:Bool}
section
variable {P:Program} {B:aZ} {ρ:Ren} {w:World} {s s1:AS} {x:AV} {call:bf} {t:Tr AV} {ev:Operand->Value} {o:Oper}
theorem D2{d:Nat}{ig:TypeId->AV->Bool}(hc:∀ty a v,ig ty a=true->VR ρ a v->(Instr.checkKey em d ty v).run P w= .ok () w){cs:List AV}{ds:Array Value}(hx:aQ ρ cs ds.toList):∀{fs:List Field},yh P ig cs fs=true->
    (forIn fs PUnit.unit fun f _=>do
      if f.name≠ "_" then do
        Instr.checkKey em d f.type (←part f.type ds f.offset)
        pure (ForInStep.yield PUnit.unit)
      else pure (ForInStep.yield PUnit.unit):Sem PUnit).run P w= .ok PUnit.unit w
  |[],_=>rfl
  | f ::fs,h=>by
    simp only[yh] at h
    rw[List.forIn_cons]
    cases en:(f.name == "_") with
    | true=>
      simp only[en] at h
      have:¬(f.name≠ "_"):=by simpa using en
      rw[if_neg this]
      simp only[Sem.run_bind,Sem.run_pure,Result.andThen_ok]
      exact D2 hc hx h
    | false=>
      simp only[en] at h
      have fD:f.name≠ "_" :=by intro e;rw[e] at en;simp at en
      rw[if_pos fD]
      cases e1:j9 P f.type cs f.offset with
      |none=>simp only[e1] at h;cases h
      | some a=>
        simp only[e1] at h
        obtain⟨v,g1,g2⟩:=yj (w:=w) hx e1
        cases e2:ig f.type a with
        |false=>simp only[e2] at h;cases h
        | true=>
          simp only[e2] at h
          simp only[Sem.run_bind,Sem.run_pure,Result.andThen_ok,g1,hc _ _ _ e2 g2]
          exact D2 hc hx h
theorem A8:∀{d:Nat} {ty:TypeId} {a:AV} {v:Value},lK P d ty a=true->VR ρ a v->(Instr.checkKey em d ty v).run P w= .ok () w
  |0,_,_,_,h,_=>by simp only[lK] at h;cases h
  | d +1,ty,a,v,h,ha=>by
    simp only[lK] at h
    rw[Instr.checkKey]
    split at h<;>first|(cases h;done)|skip
    · rename_i e;simp[bS e]
    · rename_i e;simp[bS e]
    · rename_i e;simp[bS e]
    · rename_i fs cs e
      simp only[VR] at ha
      obtain⟨ds,rfl,hl⟩:=ha
      simp only[Sem.run_bind,bS e,Result.andThen_ok]
      have:=D2 (P:=P) (w:=w) (em:=em) (d:=d) (fun ty a v h1 h2=>A8 h1 h2) hl h
      rw[←Array.forIn_toList]
      simp only[this,Result.andThen_ok,Sem.run_pure]
theorem yb{b:AV}{c:Bool}{u:Value}(hk:P.underlying k=some kd)(hp:plainKey P k a=true)(h:sameKey a b=some c)(ha:VR ρ a v)(hb:VR ρ b u):Instr.sameNow kd v u=some c:=by
  unfold plainKey at hp
  rw[hk] at hp
  unfold sameKey at h
  split at h<;>first|(cases h;done)|skip
  · rename_i k1 x1 k2 x2
    simp only[VR] at ha hb;subst ha;subst hb
    cases sM:decide (k1=k2) with
    |false=>rw[sM] at h;cases h
    | true=>
      rw[sM] at h;injection h with h;subst h
      have:=of_decide_eq_true sM
      cases kd<;>first|(cases hp;done)|simp[Instr.sameNow,this]
  · injection h with h;subst h
    simp only[VR] at ha hb;subst ha;subst hb
    cases kd<;>first|(cases hp;done)|simp[Instr.sameNow]
  · injection h with h;subst h
    simp only[VR] at ha hb;subst ha;subst hb
    cases kd<;>first|(cases hp;done)|simp[Instr.sameNow]
def wT(ρ:Ren)(es:List (AV×AV))(l:List MapEntry)(i:Nat):Option (Nat×AV)->Option (Nat×Value)->Prop
 |none,r=>r=none
 |some (j,x),r=>∃y q e,r=some (j,y)/\VR ρ x y/\i<=j/\es[j - i]? =some q/\l[j - i]? =some e/\VR ρ q.1 e.key/\q.2=x/\e.val=y
theorem wT.next{i:Nat}{p:AV×AV}{e:MapEntry}{r':Option (Nat×Value)}(h:wT ρ es l (i+1) r r'):wT ρ (p::es) (e::l) i r r':=by
  cases r with
  |none=>exact h
  | some q=>
    obtain⟨j,x⟩:=q
    obtain⟨y,q,e2,h1,h2,h3,h4,h5,h6⟩:=h
    refine⟨y,q,e2,h1,h2,by omega,?_,?_,h6⟩
    · rw[show j - i=(j - (i+1))+1 from by omega];simpa using h4
    · rw[show j - i=(j - (i+1))+1 from by omega];simpa using h5
theorem Jq(hk:P.underlying k=some kd)(hp:plainKey P k key=true)(hv:VR ρ key v):∀{es:List (AV×AV)} {l:List MapEntry} {i:Nat} {r:Option (Nat×AV)},
    fw ρ es l->jZ key es i=some r->∃r',Instr.findNow kd v l i=some r'/\wT ρ es l i r r'
  | [],l,i,r,he,h=>by
    have Ai:l=[]:=he
    subst Ai
    simp only[jZ] at h;injection h with h;subst h
    exact⟨none,rfl,rfl⟩
  | (a, b)::es,l,i,r,he,h=>by
    obtain⟨e,l',rfl,h1,h2,h3⟩:=he
    simp only[jZ] at h
    cases q:sameKey key a with
    |none=>rw[q] at h;cases h
    | some c=>
      have:=yb hk hp q hv h1
      cases c with
      | true=>
        simp only[q] at h;injection h with h;subst h
        exact⟨some (i,e.val),by simp only[Instr.findNow,this],e.val,(a,b),e,rfl,h2,Nat.le_refl _,by simp,by simp,h1,rfl,rfl⟩
      | false=>
        simp only[q] at h
        obtain⟨r',g1,g2⟩:=Jq hk hp hv h3 h
        exact⟨r',by simp only[Instr.findNow,this];exact g1,g2.next⟩
theorem Jx(hv:VR ρ key v):∀{es:List (AV×AV)} {l:List MapEntry} {i:Nat} {r:Option (Nat×AV)},
    fw ρ es l->ym P k key es i=some r->∃r',(Instr.findAsking k v l i).run P w= .ok r' w/\wT ρ es l i r r'
  | [],l,i,r,he,h=>by
    have Ai:l=[]:=he
    subst Ai
    simp only[ym] at h;injection h with h;subst h
    exact⟨none,rfl,rfl⟩
  | (a, b)::es,l,i,r,he,h=>by
    obtain⟨e,l',rfl,h1,h2,h3⟩:=he
    simp only[ym] at h
    cases q:jz P Op.maxDepth k key a with
    |none=>rw[q] at h;cases h
    | some c=>
      have hq:(Op.equal k v e.key).run P w= .ok c w:=yB q hv h1
      cases c with
      | true=>
        simp only[q] at h;injection h with h;subst h
        exact⟨some (i,e.val),by simp[Instr.findAsking,hq],e.val,(a,b),e,rfl,h2,Nat.le_refl _,by simp,by simp,h1,rfl,rfl⟩
      | false=>
        simp only[q] at h
        obtain⟨r',g1,g2⟩:=Jx hv h3 h
        exact⟨r',by simp[Instr.findAsking,hq,g1],g2.next⟩
theorem Wt{k:IntKind}{n:Int}(ha:VR ρ a (.int k n)):a= .int k n:=by
 cases a<;>(try simp only[VR] at ha)<;>first|(cases ha;rfl)|(cases ha;done)|skip
 ·rename_i q;cases q<;>simp only[VR] at ha<;>first|(cases ha;done)|(obtain⟨_,_,_,e⟩:=ha;cases e)
 ·rename_i q l c;cases q with
  |none=>obtain⟨_,_,e⟩:=jG ha;cases e
  |some q=>obtain⟨n,i⟩:=q;obtain⟨_,_,_,_,_,e⟩:=pF ha;cases e
 ·rcases ha with⟨_,_,_,_,e⟩|⟨_,_,_,_,e,_⟩<;>cases e
 ·obtain⟨_,_,_,e⟩:=ha;cases e
 ·rename_i q;cases q<;>simp only[VR] at ha<;>first|(cases ha;done)|(obtain⟨_,_,_,e⟩:=ha;cases e)
 ·obtain⟨_,_,_,e,_⟩:=ha;cases e
 ·obtain⟨_,_,_,e⟩:=ha;cases e
 ·obtain⟨_,e,_⟩:=ha;cases e
 ·obtain⟨_,e,_⟩:=ha;cases e
 ·obtain⟨_,e,_⟩:=ha;cases e
theorem Wu{q:ByteArray}(hz:po a=true)(ha:VR ρ a (.string q)):a= .str q:=by
 cases a<;>(try cases hz;done)<;>(try simp only[VR] at ha)<;>first|(cases ha;rfl)|(cases ha;done)|skip
 ·rename_i q;cases q<;>simp only[VR] at ha<;>first|(cases ha;done)|(obtain⟨_,_,_,e⟩:=ha;cases e)
 ·rename_i q l c;cases q with
  |none=>obtain⟨_,_,e⟩:=jG ha;cases e
  |some q=>obtain⟨n,i⟩:=q;obtain⟨_,_,_,_,_,e⟩:=pF ha;cases e
 ·rcases ha with⟨_,_,_,_,e⟩|⟨_,_,_,_,e,_⟩<;>cases e
 ·obtain⟨_,_,_,e⟩:=ha;cases e
 ·rename_i q;cases q<;>simp only[VR] at ha<;>first|(cases ha;done)|(obtain⟨_,_,_,e⟩:=ha;cases e)
 ·obtain⟨_,_,_,e,_⟩:=ha;cases e
 ·obtain⟨_,_,_,e⟩:=ha;cases e
 ·obtain⟨_,e,_⟩:=ha;cases e
 ·obtain⟨_,e,_⟩:=ha;cases e
 ·obtain⟨_,e,_⟩:=ha;cases e
theorem LU{b:Bool}(ha:VR ρ a (.bool b)):a= .bool b:=by
 cases a<;>(try simp only[VR] at ha)<;>first|(cases ha;rfl)|(cases ha;done)|skip
 ·rename_i q;cases q<;>simp only[VR] at ha<;>first|(cases ha;done)|(obtain⟨_,_,_,e⟩:=ha;cases e)
 ·rename_i q l c;cases q with
  |none=>obtain⟨_,_,e⟩:=jG ha;cases e
  |some q=>obtain⟨n,i⟩:=q;obtain⟨_,_,_,_,_,e⟩:=pF ha;cases e
 ·rcases ha with⟨_,_,_,_,e⟩|⟨_,_,_,_,e,_⟩<;>cases e
 ·obtain⟨_,_,_,e⟩:=ha;cases e
 ·rename_i q;cases q<;>simp only[VR] at ha<;>first|(cases ha;done)|(obtain⟨_,_,_,e⟩:=ha;cases e)
 ·obtain⟨_,_,_,e,_⟩:=ha;cases e
 ·obtain⟨_,_,_,e⟩:=ha;cases e
 ·obtain⟨_,e,_⟩:=ha;cases e
 ·obtain⟨_,e,_⟩:=ha;cases e
 ·obtain⟨_,e,_⟩:=ha;cases e
theorem Tz(hk:P.underlying k=some kd)(hz:po key=true)(hp:plainKey P k key=false)(hv:VR ρ key v)(u:Value):Instr.sameNow kd v u=none:=by
  cases e:Instr.sameNow kd v u with
  |none=>rfl
  | some c=>
    exfalso
    unfold Instr.sameNow at e
    unfold plainKey at hp
    rw[hk] at hp
    split at e<;>first|(cases e;done)|skip
    · rw[Wt hv] at hp;cases hp
    · rw[Wu hz hv] at hp;cases hp
    · rw[LU hv] at hp;cases hp
theorem MY{o:Option (Option (Nat×AV))}(h:(match po key with|false=>none|true=>o)=some r):po key=true:=by
 cases hz:po key with
 |false=>rw[hz] at h;cases h
 |true=>rfl
theorem JR(hk:P.underlying k=some kd)(hv:VR ρ key v)(he:fw ρ es l)(h:findKey P k key es=some r):
    ∃r',(Instr.findKey k v l).run P w= .ok r' w/\wT ρ es l 0 r r':=by
  unfold findKey at h
  cases hz:po key with
  |false=>rw[hz] at h;cases h
  |true=>
  simp only[hz] at h
  cases hp:plainKey P k key with
  | true=>
    simp only[hp] at h
    obtain⟨r',g1,g2⟩:=Jq hk hp hv he h
    exact⟨r',MapKept.run_findKey hk g1,g2⟩
  | false=>
    simp only[hp] at h
    obtain⟨r',g1,g2⟩:=Jx (P:=P) (w:=w) hv he h
    refine⟨r',?_,g2⟩
    cases l with
    | nil=>
      have uW:Result.ok none w=Result.ok r' w:=g1
      injection uW with uW;subst uW
      exact MapKept.run_findKey hk rfl
    | cons e l=>
      have:Instr.findNow kd v (e::l) 0=none:=by simp only[Instr.findNow,Tz hk hz hp hv e.key]
      simp only[Instr.findKey,Sem.run_bind,bS hk,Result.andThen_ok,this]
      exact g1
theorem DZ:∀{es:List (AV×AV)} {i:Nat},jZ key es i=some none->∀p∈es,sameKey key p.1=some false
  |[],_,_,p,hp=>by cases hp
  | (a, b)::es,i,h,p,hp=>by
    simp only[jZ] at h
    cases q:sameKey key a with
    |none=>rw[q] at h;cases h
    | some c=>
      cases c with
      |true=>simp only[q] at h;cases h
      | false=>
        simp only[q] at h
        rcases List.mem_cons.1 hp with rfl|hp
        · exact q
        · exact DZ h p hp
theorem Jm:∀{es:List (AV×AV)} {i j:Nat} {x:AV},jZ key es i=some (some (j,x))->i<=j/\∃q,es[j - i]? =some q/\q.2=x/\sameKey key q.1=some true
  |[],_,_,_,h=>by simp[jZ] at h
  | (a, b)::es,i,j,x,h=>by
    simp only[jZ] at h
    cases q:sameKey key a with
    |none=>rw[q] at h;cases h
    | some c=>
      cases c with
      | true=>
        simp only[q] at h;injection h with h;injection h with h;injection h with h1 h2;subst h1;subst h2
        exact⟨Nat.le_refl _,(a,b),by simp,rfl,q⟩
      | false=>
        simp only[q] at h
        obtain⟨h1,p,h2,h3⟩:=Jm h
        refine⟨by omega,p,?_,h3⟩
        rw[show j - i=(j - (i+1))+1 from by omega];simpa using h2
end
end Go.Rn
namespace Go.Rn
open Go.RowKit
variable {v u:Value} {es:List (AV×AV)} {a b key:AV} {l l':List MapEntry} {kd:TypeDesc} {ty:TypeId} {p:AV×AV} {i:Nat}
theorem D7(h:sameKey a b=some true)(c:AV):sameKey a c=sameKey b c:=by
  unfold sameKey at h
  split at h<;>first|(cases h;done)|skip
  · rename_i k x k' y
    cases hk:decide (k=k') with
    |false=>rw[hk] at h;cases h
    | true=>
      rw[hk] at h;injection h with h
      have e1:=of_decide_eq_true hk
      have e2:x=y:=by simpa using h
      rw[e1,e2]
  · rename_i x y
    injection h with h
    rw[bytes_beq] at h
    have e:x.toList=y.toList:=by simpa using h
    cases c<;>first|rfl|simp only[sameKey,bytes_beq,e]
  · rename_i x y
    injection h with h
    have e:x=y:=by simpa using h
    rw[e]
theorem D8(a b:AV):sameKey a b=sameKey b a:=by
 cases a<;>cases b<;>first|rfl|skip
 ·rename_i x y;cases x<;>cases y<;>rfl
 ·rename_i k x k' y
  by_cases e:k=k'
  ·subst e
   show(match decide (k=k) with|true=>some (x == y)|false=>none)=(match decide (k=k) with|true=>some (y == x)|false=>none)
   rw[decide_eq_true (rfl:k=k)]
   show some (x == y)=some (y == x)
   rw[BEq.comm]
  ·show(match decide (k=k') with|true=>some (x == y)|false=>none)=(match decide (k'=k) with|true=>some (y == x)|false=>none)
   rw[decide_eq_false e,decide_eq_false (Ne.symm e)]
 ·rename_i x y
  show some (x == y)=some (y == x)
  rw[bytes_beq,bytes_beq,BEq.comm]
theorem jY.at(h:jY es){j:Nat}{q:AV×AV}(hi:es[i]? =some p)(hj:es[j]? =some q)(fD:i≠j):sameKey p.1 q.1=some false:=by
 unfold jY at h
 rw[List.pairwise_iff_getElem] at h
 obtain⟨li,ei⟩:=List.getElem?_eq_some_iff.1 hi
 obtain⟨lj,ej⟩:=List.getElem?_eq_some_iff.1 hj
 rcases Nat.lt_or_ge i j with q'|q'
 ·have:=(h i j li lj q').1;rw[ei,ej] at this;exact this
 ·have:=(h j i lj li aF).2;rw[ei,ej] at this;exact this
theorem En{ρ:Ren}(h:sameKey a b=some true)(ha:VR ρ a v)(hb:VR ρ b u)(m:Nat):Instr.sameBits m v u=true:=by
  unfold sameKey at h
  split at h<;>first|(cases h;done)|skip
  · rename_i k x k' y
    cases hk:decide (k=k') with
    |false=>rw[hk] at h;cases h
    | true=>
      rw[hk] at h;injection h with h
      simp only[VR] at ha hb;subst ha;subst hb
      have e1:=of_decide_eq_true hk
      subst e1
      cases m<;>simpa[Instr.sameBits] using h
  · injection h with h
    simp only[VR] at ha hb;subst ha;subst hb
    cases m<;>simpa[Instr.sameBits] using h
  · injection h with h
    simp only[VR] at ha hb;subst ha;subst hb
    cases m<;>simpa[Instr.sameBits] using h
theorem JS{ρ:Ren}(m:Nat):∀{xs ys:List AV} {vs us:List Value},we xs ys=true->aQ ρ xs vs->aQ ρ ys us->vs.length=us.length/\((vs.zip us).all fun(x,y)=>Instr.sameBits m x y)=true
  |[],[],vs,us,_,h1,h2=>by simp only[aQ] at h1 h2;subst h1;subst h2;simp
  |[],_::_,_,_,h,_,_=>by simp[we] at h
  |_::_,[],_,_,h,_,_=>by simp[we] at h
  | x ::xs,y::ys,vs,us,h,h1,h2=>by
    simp only[aQ] at h1 h2
    obtain⟨v,vs,rfl,a1,b1⟩:=h1
    obtain⟨u,us,rfl,a2,b2⟩:=h2
    simp only[we] at h
    cases e:sameKey x y with
    |none=>rw[e] at h;cases h
    | some c=>
      cases c with
      |false=>rw[e] at h;cases h
      | true=>
        rw[e] at h
        obtain⟨p,q⟩:=JS m h b1 b2
        exact⟨by simp[p],by simp only[List.zip_cons_cons,List.all_cons,En e a1 a2 m,Bool.true_and];exact q⟩
theorem Q7{ρ:Ren}(h:sameBits a b=true)(ha:VR ρ a v)(hb:VR ρ b u)(m:Nat):Instr.sameBits (m+1) v u=true:=by
 unfold sameBits at h
 split at h
 ·rename_i xs ys
  simp only[VR] at ha hb
  obtain⟨vs,rfl,h1⟩:=ha
  obtain⟨us,rfl,h2⟩:=hb
  obtain⟨p,q⟩:=JS m h h1 h2
  simp only[Instr.sameBits,Bool.and_eq_true,beq_iff_eq]
  exact⟨by simpa using p,q⟩
 ·split at h
  ·rename_i e;exact En e ha hb _
  ·cases h
theorem KC{P:Program}{w:World}(h:Instr.sameBits 10000 v u=true):(Instr.keyThatStays v u).run P w= .ok u w:=by
 simp[Instr.keyThatStays,h]
theorem Jy:∀{l:List MapEntry} {i:Nat},(∀e∈l,Instr.sameNow kd v e.key=some false)->Instr.findNow kd v l i=some none
  |[],_,_=>rfl
  | e::l,i,h=>by
    simp only[Instr.findNow,h e List.mem_cons_self]
    exact Jy fun e he=>h e (List.mem_cons_of_mem _ he)
theorem Jz:∀{l:List MapEntry} {i:Nat},(∀e∈l,∃c,Instr.sameNow kd v e.key=some c)->(∃e∈l,Instr.sameNow kd v e.key=some true)->
    ∃j e,l[j]? =some e/\Instr.sameNow kd v e.key=some true/\Instr.findNow kd v l i=some (some (i+j,e.val))
  |[],_,_,h=>by obtain⟨_,h,_⟩:=h;cases h
  | e ::l,i,h,k=>by
    obtain⟨c,hc⟩:=h e List.mem_cons_self
    cases c with
    |true=>exact⟨0,e,rfl,hc,by simp only[Instr.findNow,hc,Nat.add_zero]⟩
    | false=>
      obtain⟨e2,h2,h3⟩:=k
      have lS:e2∈l:=by
        rcases List.mem_cons.1 h2 with rfl|h2
        · rw[hc] at h3;cases h3
        · exact h2
      obtain⟨j,e3,g1,g2,g3⟩:=Jz (i:=i+1) (fun e he=>h e (List.mem_cons_of_mem _ he)) ⟨e2,lS,h3⟩
      exact⟨j+1,e3,by simpa using g1,g2,by simp only[Instr.findNow,hc];rw[g3];congr 3;omega⟩
section
variable {P:Program} {B:aZ} {ρ:Ren} {w:World} {s s1:AS} {x:AV} {call:bf} {t:Tr AV} {ev:Operand->Value} {o:Oper}
theorem fw.get:∀{es:List (AV×AV)} {l:List MapEntry} {i:Nat} {e:MapEntry},fw ρ es l->l[i]? =some e->∃p,es[i]? =some p/\VR ρ p.1 e.key/\VR ρ p.2 e.val
  |[],l,i,e,h,k=>by have h':l=[]:=h;subst h';simp at k
  | p::es,l,i,e,h,k=>by
    obtain⟨e2,l2,rfl,h1,h2,h3⟩:=h
    cases i with
    |zero=>simp at k;subst k;exact⟨p,rfl,h1,h2⟩
    |succ i=>simp at k;obtain⟨q,g1,g2⟩:=h3.get k;exact⟨q,by simpa using g1,g2⟩
theorem fw.get'(h:fw ρ es l)(k:es[i]? =some p):∃e,l[i]? =some e/\VR ρ p.1 e.key/\VR ρ p.2 e.val:=by
 obtain⟨li,ei⟩:=List.getElem?_eq_some_iff.1 k
 have hl:=h.length
 have hi:l[i]? =some (l[i]'aF):=List.getElem?_eq_getElem _
 obtain⟨q,g1,g2⟩:=h.get hi
 rw[k] at g1;cases g1
 exact⟨_,hi,g2⟩
theorem JT{k:TypeId}{r:Option (Nat×AV)}(hk:P.underlying k=some kd)(hp:plainKey P k key=true)(hv:VR ρ key v)(ka:jY es)(he:fw ρ es l')(hl:l.Perm l')(h:jZ key es 0=some r):
    (r=none->Instr.findNow kd v l 0=some none)/\(∀j y,r=some (j,y)->∃j' e,Instr.findNow kd v l 0=some (some (j',e.val))/\l[j']? =some e/\l'[j]? =some e/\VR ρ y e.val/\∃p,es[j]? =some p/\sameKey key p.1=some true):=by
  have I:∀e∈l,∃(j:Nat) (p:AV×AV),l'[j]? =some e/\es[j]? =some p/\VR ρ p.1 e.key/\VR ρ p.2 e.val:=by
    intro e hm
    obtain⟨j,hj,e1⟩:=List.getElem_of_mem (hl.mem_iff.1 hm)
    have uY:l'[j]? =some e:=by rw[List.getElem?_eq_getElem hj,e1]
    obtain⟨p,g1,g2,g3⟩:=he.get uY
    exact⟨j,p,uY,g1,g2,g3⟩
  constructor
  · intro hr;subst hr
    refine Jy fun e hm=>?_
    obtain⟨j,p,g1,g2,g3,g4⟩:=I e hm
    exact yb hk hp (DZ h p (List.mem_of_getElem? g2)) hv g3
  · intro j y hr;subst hr
    obtain⟨_,q,h1,h2,h3⟩:=Jm h
    rw[Nat.sub_zero] at h1
    have all:∀e∈l,∃(j2:Nat) (p:AV×AV),l'[j2]? =some e/\es[j2]? =some p/\VR ρ p.2 e.val/\Instr.sameNow kd v e.key=some (decide (j2=j)):=by
      intro e hm
      obtain⟨j2,p,g1,g2,g3,g4⟩:=I e hm
      refine⟨j2,p,g1,g2,g4,?_⟩
      by_cases e2:j2=j
      · subst e2
        rw[h1] at g2;cases g2
        simp only[decide_true]
        exact yb hk hp h3 hv g3
      · rw[decide_eq_false e2]
        refine yb hk hp ?_ hv g3
        rw[D7 h3]
        exact ka.at h1 g2 (Ne.symm e2)
    obtain⟨e0,g1,g2,g3⟩:=he.get' h1
    have Aj:e0∈l:=hl.mem_iff.2 (List.mem_of_getElem? g1)
    obtain⟨j',e,f1,f2,f3⟩:=Jz (kd:=kd) (v:=v) (l:=l) (i:=0) (fun e hm=>let ⟨_,_,_,_,_,h⟩:=all e hm;⟨_,h⟩) ⟨e0,Aj,yb hk hp h3 hv g2⟩
    rw[Nat.zero_add] at f3
    obtain⟨j2,p,a1,a2,a3,a4⟩:=all e (List.mem_of_getElem? f1)
    rw[f2] at a4;injection a4 with a4
    have e2:j2=j:=by simpa using a4.symm
    subst e2
    rw[h1] at a2;cases a2
    exact⟨j',e,f3,f1,a1,by rw[←h2];exact a3,q,h1,h3⟩
theorem RM(h:short es=true)(he:fw ρ es l')(hl:l.Perm l'):fw ρ es l:=by
 have hlen:=he.length
 unfold short at h
 split at h<;>first|(cases h;done)|skip
 ·have:l'=[]:=by cases l'<;>first|rfl|simp at hlen
  subst this
  rw[List.perm_nil.1 hl];exact he
 ·match l',hlen,hl,he with
  |[e],_,hl,he=>rw[List.perm_singleton.1 hl];exact he
theorem VR.sI{ok b:Bool}{y:AV}(h:VR ρ y v):VR ρ (sI ok y b) (if ok=true then .tuple #[v,.bool b] else v):=by
 cases ok with
 |false=>exact h
 |true=>simp only[Rn.sI,if_true,VR,aQ];exact⟨_,rfl,v,_,rfl,h,.bool b,_,rfl,rfl,rfl⟩
theorem Eo:∀{d:Nat} {k:TypeId} {key:AV},lK P d k key=true->∃kd,P.underlying k=some kd
  |0,_,_,h=>by simp only[lK] at h;cases h
  | d+1,k,key,h=>by
    simp only[lK] at h
    cases q:P.underlying k with
    |none=>rw[q] at h;cases h
    |some kd=>exact⟨kd,rfl⟩
theorem Rj{ok :Bool}{va vk:Value}(ha:VR ρ a va)(mh:VR ρ key vk)(fi:bY s)(r:Rel B ρ s.h w)(h:rN P ty a key ok s= .ok x s1):
    hZ P B ρ s s1 w x (Instr.lookup ty va vk ok):=by
  unfold rN at h
  cases e1:P.underlying ty with
  |none=>simp only[e1] at h;cases h
  | some d=>
    cases d<;>simp only[e1] at h<;>first|(cases h;done)|skip
    rename_i k e
    obtain⟨es,s2,h1,h2⟩:=M.bG h
    obtain⟨h3,h4⟩:=dY h2
    obtain⟨f,h5,h6⟩:=ch h4
    have n6:∃kd,P.underlying k=some kd:=by
      exact Eo h3
    obtain⟨kd,n6⟩:=n6
    have gg:∀em,(Instr.checkKey em 10000 k vk).run P w= .ok () w:=fun em=>A8 h3 mh
    have main :∃l:Array MapEntry,((va= .map none/\l= #[])\/∃b ak,va= .map (some b)/\w.heap[b]? =some (.map l ak))/\s2.h=s.h/\s2.nx=s.nx/\
        ∃r',(Instr.findKey k vk l.toList).run P w= .ok r' w/\(f=none->r'=none)/\(∀j y,f=some (j,y)->∃j' z,r'=some (j',z)/\VR ρ y z):=by
      have exact:∀l:Array MapEntry,fw ρ es l.toList->∃r',(Instr.findKey k vk l.toList).run P w= .ok r' w/\(f=none->r'=none)/\(∀j y,f=some (j,y)->∃j' z,r'=some (j',z)/\VR ρ y z):=by
        intro l he
        obtain⟨r',g1,g2⟩:=JR (P:=P) (w:=w) n6 mh he h5
        refine⟨r',g1,fun q=>by subst q;exact g2,fun j y q=>?_⟩
        subst q
        obtain⟨z,_,_,q1,q2,_⟩:=g2
        exact⟨j,z,q1,q2⟩
      unfold rT at h1
      split at h1
      · obtain⟨rfl,rfl⟩:=bW h1
        simp only[VR] at ha;subst ha
        exact⟨#[],.inl ⟨rfl,rfl⟩,rfl,rfl,exact #[] rfl⟩
      · rename_i m
        obtain⟨ob,s3,h7,h8⟩:=M.bG h1
        obtain⟨hx,hg,hh,dv⟩:=j0 h7
        have ht:m<top:=Nat.lt_of_lt_of_le hx fi.nx
        simp only[VR] at ha
        obtain⟨b,N,hm,rfl⟩:=ha
        obtain⟨o',hb,hO,_⟩:=r.block ht hg hm
        cases ob with
        | map kj ak=>
          obtain⟨rfl,rfl⟩:=bW h8
          obtain⟨l,rfl,_,q⟩:=hO
          exact⟨l,.inr ⟨b,ak,rfl,hb⟩,hh,dv,exact l q.eqs⟩
        | mH kj=>
          obtain⟨h9,eA⟩:=dY h8
          obtain⟨rfl,rfl⟩:=bW eA
          obtain⟨l,ak,rfl,ka,_,l',hp,he⟩:=hO
          refine⟨l,.inr ⟨b,ak,rfl,hb⟩,hh,dv,?_⟩
          cases q:plainKey P k key with
          | false=>
            rw[q] at h9
            exact exact l (RM h9 he hp)
          | true=>
            unfold findKey at h5
            have hz:po _=true:=MY h5
            simp only[hz] at h5
            simp only[q] at h5
            obtain⟨g1,g2⟩:=JT n6 q mh ka he hp h5
            cases f with
            |none=>exact⟨none,MapKept.run_findKey n6 (g1 rfl),(fun _=>rfl),(fun j y e=>by cases e)⟩
            | some p=>
              obtain⟨j,y⟩:=p
              obtain⟨j',e,f1,_,_,f2,_⟩:=g2 j y rfl
              exact⟨some (j',e.val),MapKept.run_findKey n6 f1,(fun e=>by cases e),(fun j y e2=>by cases e2;exact⟨j',_,rfl,f2⟩)⟩
        |_=>cases h8
      · cases h1
    obtain⟨l,m1,m2,m3,r',m4,m5,m6⟩:=main
    cases f with
    | some p=>
      obtain⟨j,y⟩:=p
      obtain⟨rfl,rfl⟩:=bW h6
      obtain⟨j',z,rfl,hz⟩:=m6 j y rfl
      refine⟨ρ,w,_,by rw[m3];exact Ext.refl _ _ _,?_,hz.sI,by rw[m2];exact r,cU.refl _ _⟩
      rcases m1 with⟨rfl,rfl⟩|⟨b,ak,rfl,hb⟩
      · simp only[Instr.lookup,Sem.run_bind,bS e1,Result.andThen_ok,gg,m4,Sem.run_pure]
      · simp only[Instr.lookup,Sem.run_bind,bS e1,Result.andThen_ok,MapKept.run_getObj_map hb,gg,m4,Sem.run_pure]
    | none=>
      obtain⟨z,h7,h8⟩:=ch h6
      obtain⟨rfl,rfl⟩:=bW h8
      have:=m5 rfl
      subst this
      obtain⟨vz,g1,g2⟩:=ya (P:=P) (w:=w) ρ h7
      refine⟨ρ,w,_,by rw[m3];exact Ext.refl _ _ _,?_,g2.sI,by rw[m2];exact r,cU.refl _ _⟩
      rcases m1 with⟨rfl,rfl⟩|⟨b,ak,rfl,hb⟩
      · simp only[Instr.lookup,Sem.run_bind,bS e1,Result.andThen_ok,gg,m4,Sem.run_pure,g1]
      · simp only[Instr.lookup,Sem.run_bind,bS e1,Result.andThen_ok,MapKept.run_getObj_map hb,gg,m4,Sem.run_pure,g1]
theorem Rk{y z:Operand}{ok:Bool}(he:∀x v,aR t x=some v->VR ρ v (ev x))(fi:bY s)(r:Rel B ρ s.h w)(h:qB P ty y z ok call t s= .ok x s1)(ho:o.op= .lookup ty y z ok):fB P B ρ s s1 w x (execOp ev o):=by
 unfold qB at h
 obtain⟨a,h1,h2⟩:=ch h
 obtain⟨b,h3,h4⟩:=ch h2
 have:=(Rj (P:=P) (he y a h1) (he z b h3) fi r h4).op
 simpa only[execOp,ho] using this
end
end Go.Rn
namespace Go.Rn
open Go.RowKit
variable {key:AV} {vv vk:Value} {es:List (AV×AV)} {e:MapEntry} {α:Type} {ty:TypeId} {l:List MapEntry} {i ak:Nat}
theorem KD:∀(es:List (AV×AV)) (i j:Nat) (k v:AV),(putAt es i k v)[j]? =if j=i then(es[j]?).map (fun _=>(k,v)) else es[j]?
  |[],i,j,k,v=>by simp[putAt]
  |p::es,0,j,k,v=>by cases j<;>simp[putAt]
  | p::es,i+1,j,k,v=>by
    cases j with
    |zero=>simp[putAt]
    |succ j=>simp[putAt,KD es i j k v]
theorem JA:∀(es:List (AV×AV)) (i:Nat) (k v:AV),(putAt es i k v).length=es.length
 |[],_,_,_=>rfl
 |_::_,0,_,_=>rfl
 |_::es,i+1,k,v=>by simp[putAt,JA es i k v]
def ny(k v:Value)(e:MapEntry):MapEntry:={e with key:=k,val:=v}
theorem jy.put{ρ:Ren}{val:AV}(hk:VR ρ key vk)(hv:VR ρ val vv):∀{es:List (AV×AV)} {l:List MapEntry} {n i:Nat},jy ρ es l n->jy ρ (putAt es i key val) (l.modify i (ny vk vv)) n
  |[],l,n,i,h=>by have h':l=[]:=h;subst h';cases i<;>rfl
  | p::es,l,n,0,h=>by
    obtain⟨e,l',rfl,a,b,c,d⟩:=h
    exact⟨ny vk vv e,l',rfl,hk,hv,c,d⟩
  | p::es,l,n,i+1,h=>by
    obtain⟨e,l',rfl,a,b,c,d⟩:=h
    exact⟨e,l'.modify i (ny vk vv),rfl,a,b,c,d.put hk hv⟩
theorem fw.put{ρ:Ren}{val:AV}(hk:VR ρ key vk)(hv:VR ρ val vv):∀{es:List (AV×AV)} {l:List MapEntry} {i:Nat},fw ρ es l->fw ρ (putAt es i key val) (l.modify i (ny vk vv))
  |[],l,i,h=>by have h':l=[]:=h;subst h';cases i<;>rfl
  | p::es,l,0,h=>by
    obtain⟨e,l',rfl,a,b,d⟩:=h
    exact⟨ny vk vv e,l',rfl,hk,hv,d⟩
  | p::es,l,i+1,h=>by
    obtain⟨e,l',rfl,a,b,d⟩:=h
    exact⟨e,l'.modify i (ny vk vv),rfl,a,b,d.put hk hv⟩
theorem jy.push{ρ:Ren}{val:AV}(hk:VR ρ key e.key)(hv:VR ρ val e.val):∀{es:List (AV×AV)} {l:List MapEntry} {n:Nat},jy ρ es l n->e.born=n+es.length->jy ρ (es++[(key,val)]) (l++[e]) n
  |[],l,n,h,hb=>by have h':l=[]:=h;subst h';exact⟨e,[],rfl,hk,hv,hb,rfl⟩
  | p::es,l,n,h,hb=>by
    obtain⟨e2,l',rfl,a,b,c,d⟩:=h
    exact⟨e2,l'++[e],rfl,a,b,c,d.push hk hv (by simp at hb;omega)⟩
theorem fw.push{ρ:Ren}{val:AV}(hk:VR ρ key e.key)(hv:VR ρ val e.val):∀{es:List (AV×AV)} {l:List MapEntry},fw ρ es l->fw ρ (es++[(key,val)]) (l++[e])
  |[],l,h=>by have h':l=[]:=h;subst h';exact⟨e,[],rfl,hk,hv,rfl⟩
  | p::es,l,h=>by
    obtain⟨e2,l',rfl,a,b,d⟩:=h
    exact⟨e2,l'++[e],rfl,a,b,d.push hk hv⟩
theorem jY.of(h:∀(i j:Nat) (p q:AV×AV),i≠j->es[i]? =some p->es[j]? =some q->sameKey p.1 q.1=some false):jY es:=by
 unfold jY
 rw[List.pairwise_iff_getElem]
 intro i j hi hj jS
 exact⟨h i j _ _ aF (List.getElem?_eq_getElem hi) (List.getElem?_eq_getElem hj),h j i _ _ aF (List.getElem?_eq_getElem hj) (List.getElem?_eq_getElem hi)⟩
theorem jY.put(h:jY es){p:AV×AV}{val:AV}(hi:es[i]? =some p)(hk:sameKey key p.1=some true):jY (putAt es i key val):=by
 refine jY.of fun j k a b Ak ha hb=>?_
 rw[KD] at ha hb
 by_cases e1:j=i
 ·have e2:k≠i:=by omega
  rw[if_pos e1,e1,hi] at ha
  rw[if_neg e2] at hb
  simp only[Option.map_some,Option.some.injEq] at ha
  rw[←ha]
  show sameKey key b.1=some false
  rw[D7 hk];exact h.at hi hb (Ne.symm e2)
 ·rw[if_neg e1] at ha
  by_cases e2:k=i
  ·rw[if_pos e2,e2,hi] at hb
   simp only[Option.map_some,Option.some.injEq] at hb
   rw[←hb]
   show sameKey a.1 key=some false
   rw[D8,D7 hk];exact h.at hi ha (Ne.symm e1)
  ·rw[if_neg e2] at hb;exact h.at ha hb Ak
theorem jY.push(h:jY es){val:AV}(hk:∀p∈es,sameKey key p.1=some false):jY (es++[(key,val)]):=by
 unfold jY at h ⊢
 rw[List.pairwise_append]
 refine⟨h,by simp,fun a ha b hb=>?_⟩
 simp only[List.mem_singleton] at hb
 subst hb
 exact⟨by rw[D8];exact hk a ha,hk a ha⟩
theorem E3(f:α->α):∀{l:List α} {j:Nat} {e:α},l[j]? =some e->l.Perm (e::l.eraseIdx j)/\(l.modify j f).Perm (f e::l.eraseIdx j)
  |[],j,e,h=>by simp at h
  |a::l,0,e,h=>by simp at h;subst h;exact⟨List.Perm.refl _,List.Perm.refl _⟩
  | a ::l,j+1,e,h=>by
    simp at h
    obtain⟨p,q⟩:=E3 f h
    refine⟨?_,?_⟩
    · exact(p.cons a).trans (List.Perm.swap _ _ _)
    · rw[List.modify_succ_cons]
      exact(q.cons a).trans (List.Perm.swap _ _ _)
theorem Sy(f:α->α){l l':List α}{j:Nat}{e:α}(hl:l.Perm l')(hi:l[i]? =some e)(hj:l'[j]? =some e):(l.modify i f).Perm (l'.modify j f):=by
 obtain⟨p,q⟩:=E3 f hi
 obtain⟨p',q'⟩:=E3 f hj
 have:=((p.symm.trans hl).trans p').cons_inv
 exact(q.trans (this.cons _)).trans q'.symm
theorem Eg(k v:Value):∀(l:List MapEntry) (i:Nat),(l.modify i (ny k v)).map (·.born)=l.map (·.born)
 |[],i=>by cases i<;>rfl
 |e::l,0=>rfl
 |e::l,i+1=>by rw[List.modify_succ_cons];simp[Eg k v l i]
theorem rQ.modify(h:rQ l ak)(k v:Value)(i:Nat):rQ (l.modify i (ny k v)) ak:=by
 refine⟨by rw[Eg];exact h.1,fun e he=>?_⟩
 have:e.born∈(l.modify i (ny k v)).map (·.born):=List.mem_map_of_mem he
 rw[Eg] at this
 obtain⟨e2,h2,h3⟩:=List.mem_map.1 this
 rw[←h3];exact h.2 e2 h2
theorem rQ.push(h:rQ l ak)(he:e.born=ak):rQ (l++[e]) (ak+1):=by
 refine⟨?_,fun e2 h2=>?_⟩
 ·rw[List.map_append,List.nodup_append]
  refine⟨h.1,by simp,fun a ha b hb=>?_⟩
  simp only[List.map_cons,List.map_nil,List.mem_singleton] at hb
  obtain⟨e2,h2,h3⟩:=List.mem_map.1 ha
  have:=h.2 e2 h2
  omega
 ·rcases List.mem_append.1 h2 with h2|h2
  ·have:=h.2 e2 h2;omega
  ·simp only[List.mem_singleton] at h2;subst h2;omega
section
variable {P:Program} {B:aZ} {ρ:Ren} {w:World} {s s1:AS} {x:AV} {call:bf} {t:Tr AV} {ev:Operand->Value} {o:Oper}
theorem vM{w:World}{b:Nat}{o o':Obj}(hb:w.heap[b]? =some o):
  rW b w {w with heap:=w.heap.setIfInBounds b o'}/\({w with heap:=w.heap.setIfInBounds b o'}:World).heap[b]? =some o':=by
 refine⟨⟨rfl,rfl,rfl,by simp,fun k hk=>?_⟩,?_⟩
 ·show(w.heap.setIfInBounds b o')[k]? =w.heap[k]?
  rw[Array.getElem?_setIfInBounds_ne aF]
 ·show(w.heap.setIfInBounds b o')[b]? =some o'
  exact Array.getElem?_setIfInBounds_self_of_lt (oQ hb)
theorem RN{m val:AV}{vm:Value}{u:Unit}(hm:VR ρ m vm)(mh:VR ρ key vk)(nO:VR ρ val vv)(fi:bY s)(r:Rel B ρ s.h w)(h:qF P ty m key val s= .ok u s1):
    s1.nx=s.nx/\∃w',(Instr.mapUpdate ty vm vk vv).run P w= .ok () w'/\Rel B ρ s1.h w'/\cU B w w':=by
  unfold qF at h
  cases e1:P.underlying ty with
  |none=>simp only[e1] at h;cases h
  | some d=>
    cases d<;>simp only[e1] at h<;>first|(cases h;done)|skip
    rename_i k e
    cases m<;>first|(cases h;done)|skip
    rename_i q
    cases q with
    |none=>cases h
    | some n=>
      simp only[VR] at hm
      obtain⟨b,N,hn,rfl⟩:=hm
      obtain⟨ob,s2,h1,h2⟩:=M.bG h
      obtain⟨hx,hg,hh,dv⟩:=j0 h1
      have ht:n<top:=Nat.lt_of_lt_of_le hx fi.nx
      obtain⟨o',hb,hO,hB⟩:=r.block ht hg hn
      cases ob with
      | map es ak=>
        obtain⟨h3,h4⟩:=dY h2
        obtain⟨f,h5,h6⟩:=ch h4
        obtain⟨l,rfl,F1,he⟩:=hO
        obtain⟨kd,n6⟩:=Eo h3
        have gg:∀em,(Instr.checkKey em 10000 k vk).run P w= .ok () w:=fun em=>A8 h3 mh
        obtain⟨r',g1,g2⟩:=JR (P:=P) (w:=w) n6 mh he.eqs h5
        cases f with
        | some p=>
          obtain⟨j,y⟩:=p
          obtain⟨z,q,e0,rfl,_,_,q1,q2,q3,_,_⟩:=g2
          rw[Nat.sub_zero] at q1 q2
          obtain⟨dN,h7,h8⟩:=ch (show(bh es[j]? fun dN=>bC (sameBits dN.1 key) <| dy n (some (.map (putAt es j key val) ak))) s2= .ok u s1 from h6)
          obtain⟨h9,eA⟩:=dY h8
          rw[q1] at h7;cases h7
          have Gm:=Q7 h9 q3 mh 9999
          obtain⟨_,_,_,i1,i2⟩:=oM eA
          obtain⟨g3,g4⟩:=vM (o':=.map (l.modify j (ny vk vv)) ak) hb
          refine⟨by rw[i2,dv],_,?_,?_,g3.below (hB rfl)⟩
          · have hl:l[j]? =some e0:=by simpa using q2
            simp only[Instr.mapUpdate,Sem.run_bind,bS e1,Result.andThen_ok,MapKept.run_getObj_map hb,gg,g1,hl,Option.map_some,Option.getD_some,KC Gm,MapKept.run_setObj_map _ hb]
            rfl
          · rw[i1,hh]
            refine r.put ht hg rfl rfl hn rfl g3 g4 ⟨_,rfl,by rw[JA];exact F1,?_⟩
            rw[Array.toList_modify];exact he.put mh nO
        | none=>
          have g2':r'=none:=g2
          subst g2'
          obtain⟨_,_,_,i1,i2⟩:=oM (show dy n (some (.map (es++[(key,val)]) (ak+1))) s2= .ok u s1 from h6)
          obtain⟨g3,g4⟩:=vM (o':=.map (l.push {key:=vk,val:=vv,born:=ak}) (ak+1)) hb
          refine⟨by rw[i2,dv],_,?_,?_,g3.below (hB rfl)⟩
          · simp only[Instr.mapUpdate,Sem.run_bind,bS e1,Result.andThen_ok,MapKept.run_getObj_map hb,gg,g1,MapKept.run_setObj_map _ hb]
          · rw[i1,hh]
            refine r.put ht hg rfl rfl hn rfl g3 g4 ⟨_,rfl,by simp[F1],?_⟩
            rw[Array.toList_push]
            exact he.push mh nO (by simp[F1])
      | mH es=>
        obtain⟨h3,h4⟩:=dY h2
        obtain⟨f,h5,h6⟩:=ch h4
        obtain⟨hp,P3⟩:=and_true.1 h3
        obtain⟨l,ak,rfl,ka,P4,l',hl,he⟩:=hO
        obtain⟨kd,n6⟩:=Eo P3
        have gg:∀em,(Instr.checkKey em 10000 k vk).run P w= .ok () w:=fun em=>A8 P3 mh
        unfold findKey at h5
        have hz:po _=true:=MY h5
        simp only[hz] at h5
        simp only[hp] at h5
        obtain⟨f1,f2⟩:=JT n6 hp mh ka he hl h5
        cases f with
        | some p=>
          obtain⟨j,y⟩:=p
          obtain⟨j',e0,a1,a2,a3,a4,q,a5,a6⟩:=f2 j y rfl
          obtain⟨_,_,_,i1,i2⟩:=oM (show dy n (some (.mH (putAt es j key val))) s2= .ok u s1 from h6)
          obtain⟨g3,g4⟩:=vM (o':=.map (l.modify j' (ny vk vv)) ak) hb
          have hq:VR ρ q.1 e0.key:=by
            obtain⟨q',b1,b2,_⟩:=he.get a3
            rw[a5] at b1;cases b1;exact b2
          have Gm:Instr.sameBits 10000 e0.key vk=true:=En (by rw[D8];exact a6) hq mh 10000
          refine⟨by rw[i2,dv],_,?_,?_,g3.below (hB rfl)⟩
          · have iZ:l[j']? =some e0:=by simpa using a2
            simp only[Instr.mapUpdate,Sem.run_bind,bS e1,Result.andThen_ok,MapKept.run_getObj_map hb,gg,MapKept.run_findKey n6 a1,iZ,Option.map_some,Option.getD_some,KC Gm,MapKept.run_setObj_map _ hb]
            rfl
          · rw[i1,hh]
            refine r.put ht hg rfl rfl hn rfl g3 g4 ⟨_,_,rfl,ka.put a5 a6,?_,l'.modify j (ny vk vv),?_,he.put mh nO⟩
            · rw[Array.toList_modify];exact P4.modify _ _ _
            · rw[Array.toList_modify];exact Sy _ hl a2 a3
        | none=>
          obtain⟨_,_,_,i1,i2⟩:=oM (show dy n (some (.mH (es++[(key,val)]))) s2= .ok u s1 from h6)
          obtain⟨g3,g4⟩:=vM (o':=.map (l.push {key:=vk,val:=vv,born:=ak}) (ak+1)) hb
          refine⟨by rw[i2,dv],_,?_,?_,g3.below (hB rfl)⟩
          · simp only[Instr.mapUpdate,Sem.run_bind,bS e1,Result.andThen_ok,MapKept.run_getObj_map hb,gg,MapKept.run_findKey n6 (f1 rfl),MapKept.run_setObj_map _ hb]
          · rw[i1,hh]
            refine r.put ht hg rfl rfl hn rfl g3 g4 ⟨_,_,rfl,ka.push (DZ h5),?_,l'++[{key:=vk,val:=vv,born:=ak}],?_,fw.push (e:={key:=vk,val:=vv,born:=ak}) mh nO he⟩
            · rw[Array.toList_push];exact P4.push rfl
            · rw[Array.toList_push];exact hl.append_right _
      |_=>cases h2
theorem JU{a b c:Operand}(he:∀x v,aR t x=some v->VR ρ v (ev x))(fi:bY s)(r:Rel B ρ s.h w)(h:mC P ty a b c call t s= .ok x s1)(ho:o.op= .mapUpdate ty a b c\/o.op= .insert ty a b c):fB P B ρ s s1 w x (execOp ev o):=by
 unfold mC at h
 obtain⟨m,h1,h2⟩:=ch h
 obtain⟨k,h3,h4⟩:=ch h2
 obtain⟨v,h5,h6⟩:=ch h4
 obtain⟨u,s2,h7,h8⟩:=M.bG h6
 obtain⟨rfl,rfl⟩:=bW h8
 obtain⟨a1,w',a2,a3,a4⟩:=RN (P:=P) (he a m h1) (he b k h3) (he c v h5) fi r h7
 refine⟨ρ,w',.skip,by rw[a1];exact Ext.refl _ _ _,?_,rfl,a3,a4⟩
 rcases ho with ho|ho<;>simp[execOp,ho,a2]
end
end Go.Rn
namespace Go.Rn
open Go.RowKit
variable {y:Operand}
section
variable {P:Program} {B:aZ} {ρ:Ren} {w:World} {s s1:AS} {x:AV} {call:bf} {t:Tr AV} {ev:Operand->Value} {o:Oper}
theorem RO{ty:TypeId}(he:∀x v,aR t x=some v->VR ρ v (ev x))(fi:bY s)(r:Rel B ρ s.h w)(hf:dH s.nx s1.nx ρ)(h:wE P ty y call t s= .ok x s1)(ho:o.op= .range ty y):fB P B ρ s s1 w x (execOp ev o):=by
 have h':(R.bad:R AV)= .ok x s1:=h
 cases h'
theorem RP(he:∀x v,aR t x=some v->VR ρ v (ev x))(fi:bY s)(r:Rel B ρ s.h w)(h:wF y call t s= .ok x s1)(ho:o.op= .entry y):fB P B ρ s s1 w x (execOp ev o):=by
 have h':(R.bad:R AV)= .ok x s1:=h
 cases h'
theorem Q8(he:∀x v,aR t x=some v->VR ρ v (ev x))(fi:bY s)(r:Rel B ρ s.h w)(h:vV y call t s= .ok x s1)(ho:o.op= .next y true):fB P B ρ s s1 w x (execOp ev o):=by
 have h':(R.bad:R AV)= .ok x s1:=h
 cases h'
end
end Go.Rn
namespace Go.Rn
open Go.RowKit
variable {y:Operand} {v:Value} {ty:TypeId} {ts:Array TypeId} {args:Array Operand}
def Wv(P:Program)(l:Nat)(f:FuncId)(tmps:Array Value)(assign body:Code)(w:World)(R:Value->World->Prop):Prop:=
 ∀(c:Frame) (cs:List Frame),∃v w',R v w'/\Steps P (lone (Frame.round l f tmps assign body .normal) (c::cs) w) (lone (c.finish v) cs w')
def kL(P:Program)(r:Result Next)(R:Value->World->Prop):Prop:=
 match r with
 | .ok (.value v) w=>R v w
 | .ok .skip w=>R undef w
 | .ok (.enter f args) w=>Calls P f args w fun e w'=>∃v,e= .returned v/\R v w'
 | .ok (.round l f tmps assign body) w=>Wv P l f tmps assign body w R
 |_=>False
def lN(B:aZ)(ρ:Ren)(s s1:AS)(w:World)(x:AV):Value->World->Prop:=
 fun v w'=>∃σ,Ext s.nx s1.nx ρ σ/\VR σ x v/\Rel B σ s1.h w'/\cU B w w'
structure hJ (P:Program) (B:aZ) (call:bf):Prop where
 fn:∀(f:FuncId) (args:List AV) (x:AV) (s s1:AS) (ρ:Ren) (w:World) (vs:Array Value),bY s->Rel B ρ s.h w->iJ ρ->dH s.nx s1.nx ρ->call (.fn f) args s= .ok x s1->aQ ρ args vs.toList->
  kL P ((callFunc f vs).run P w) (lN B ρ s s1 w x)
 round:∀(l b N:Nat) (args:List AV) (x:AV) (s s1:AS) (ρ:Ren) (w:World) (vs:Array Value),bY s->Rel B ρ s.h w->iJ ρ->dH s.nx s1.nx ρ->call (.round l) args s= .ok x s1->aQ ρ args vs.toList->
  ρ l=some (b,N)->kL P ((Instr.yield b vs).run P w) (lN B ρ s s1 w x)
 row:tQ B call
section
variable {P:Program} {B:aZ} {ρ:Ren} {w:World} {s s1:AS} {x:AV} {call:bf} {t:Tr AV} {ev:Operand->Value} {o:Oper}
theorem fB.back{c:Sem Next}(h:fB P B ρ s s1 w x c):kL P (c.run P w) (lN B ρ s s1 w x):=by
 obtain⟨σ,w',nv,a,b,d,e,f⟩:=h
 rw[b]
 cases nv<;>first|(cases d;done)|skip
 ·exact⟨σ,a,d,e,f⟩
 ·exact⟨σ,a,by rw[d];exact VR.undef σ,e,f⟩
theorem VR.Le{f:Fn}{a c:List AV}(h:VR ρ (.func f a c) v):LM f=true/\∃p q,v= .func f p q/\aQ ρ a p.toList/\aQ ρ c q.toList:=by
 simpa only[VR] using h
theorem Sz(hc:hJ P B call)(he:∀x v,aR t x=some v->VR ρ v (ev x))(hg:iJ ρ)(fi:bY s)(r:Rel B ρ s.h w)(hf:dH s.nx s1.nx ρ)(h:mN y args.toList call t s= .ok x s1)(ho:o.op= .call ⟨.value y,args,ts⟩):kL P ((execOp ev o).run P w) (lN B ρ s s1 w x):=by
 unfold mN at h
 obtain⟨l,h1,h2⟩:=ch h
 obtain⟨f,h3,h4⟩:=ch h2
 have hl:=vW he h1
 have n7:=he y f h3
 unfold ju at h4
 split at h4
 ·rename_i g first captured
  obtain⟨_,p,q,e,hp,hq⟩:=n7.Le
  have y5:aQ ρ (first++l++captured) (p++args.map ev++q).toList:=by
   rw[Array.toList_append,Array.toList_append]
   exact(hp.append (by simpa using hl)).append hq
  have:=hc.fn g _ x s s1 ρ w _ fi r hg hf h4 y5
  simp only[execOp,ho,resolve,Deferred.ofValue,e,Sem.run_bind,Sem.run_pure,Result.andThen_ok,invoke]
  exact this
 ·rename_i n
  have n5:=n7
  simp only[VR] at n5
  obtain⟨b,N,hn,e⟩:=n5
  have:=hc.round n b N _ x s s1 ρ w (args.map ev) fi r hg hf h4 (by simpa using hl) hn
  simp only[execOp,ho,resolve,Deferred.ofValue,e,Sem.run_bind,Sem.run_pure,Result.andThen_ok,invoke]
  simpa using this
 ·cases h4
theorem RQ{name:String}{f:FuncId}{k:Nat}(h:Fw P ty name=some f):(Go.method (k+1) ty v name).run P w= .ok (f,v) w:=by
  unfold Fw at h
  cases e1:P.info? ty with
  |none=>rw[e1] at h;cases h
  | some i=>
    simp only[e1] at h
    cases e2:i.methods.toList.find? (·.name == name) with
    |none=>simp only[e2] at h;cases h
    | some m=>
      simp only[e2] at h
      have e3:i.methods.find? (·.name == name)=some m:=by rw[←Array.find?_toList];exact e2
      split at h
      · rename_i g ptr hp hm
        have YJ:m.path.toList=[]:=by
          have:m.path= #[]:=by simpa using hp
          rw[this]
        have hrecv:(receiverAt ty (.val v) ptr (if m.path.isEmpty=true then some ((name.splitOn ".").getLastD name) else none)).run P w= .ok v w/\g=f:=by
          split at h
          · rename_i pt eu
            injection h with h
            exact⟨by simp[receiverAt,bS eu,Place.get],h⟩
          · cases h
          · rename_i d hd eu
            injection h with h
            refine⟨?_,h⟩
            simp only[receiverAt,Sem.run_bind,bS eu,Result.andThen_ok]
            cases d<;>first|rfl|(exact absurd eu (hd _))
          · cases h
        rw[Go.method]
        simp only[Sem.run_bind,oz e1,Result.andThen_ok,e3,YJ,follow,Sem.run_pure,hm,hrecv.1,hrecv.2]
      · cases h
theorem Rl{u:Value}{name:String}{va:Array Value}{g:FuncId}(hm:∀k,(Go.method (k+1) ty u name).run P w= .ok (g,u) w):
  (invoke (.fn (.method name) #[]) (#[.iface ty u]++va)).run P w=(callFunc g (#[u]++va)).run P w:=by
 have e2:(#[Value.iface ty u]++va).extract 1 (#[Value.iface ty u]++va).size=va:=by
  apply Array.toList_inj.1;simp
 have e3:(#[Value.iface ty u]++va)[0]? =some (.iface ty u):=by
  rw[Array.getElem?_append_left jQ];rfl
 have YK:P.types.size+Made.depth=(P.types.size+Made.depth - 1)+1:=by
  have:0<Made.depth:=by decide
  omega
 have y6:(program).run P w= .ok P w:=rfl
 simp only[invoke,e2,e3,callMethod,Sem.run_bind,y6,Result.andThen_ok]
 rw[YK,hm]
 rfl
theorem Rm{name:String}(hc:hJ P B call)(he:∀x v,aR t x=some v->VR ρ v (ev x))(hg:iJ ρ)(fi:bY s)(r:Rel B ρ s.h w)(hf:dH s.nx s1.nx ρ)(h:tE P y name args.toList call t s= .ok x s1)(ho:o.op= .call ⟨.invoke y name,args,ts⟩):kL P ((execOp ev o).run P w) (lN B ρ s s1 w x):=by
 unfold tE at h
 obtain⟨l,h1,h2⟩:=ch h
 obtain⟨f,h3,h4⟩:=ch h2
 have hl:=vW he h1
 have n7:=he y f h3
 split at h4
 ·rename_i ty v
  obtain⟨g,h5,h6⟩:=ch h4
  simp only[VR] at n7
  obtain⟨u,e,hu⟩:=n7
  have y5:aQ ρ (v::l) (#[u]++args.map ev).toList:=by
   simp only[Array.toList_append,aQ]
   exact⟨u,(args.map ev).toList,by simp,hu,by simpa using hl⟩
  have:=hc.fn g _ x s s1 ρ w _ fi r hg hf h6 y5
  have hm:∀k,(Go.method (k+1) ty u name).run P w= .ok (g,u) w:=fun k=>RQ h5
  simp only[execOp,ho,resolve,Sem.run_bind,Sem.run_pure,Result.andThen_ok,e]
  rw[Rl (P:=P) (w:=w) hm]
  exact this
 ·cases h4
end
end Go.Rn
namespace Go.Rn
open Go.RowKit
section
variable {P:Program} {B:aZ} {ρ:Ren} {w:World} {s s1:AS} {x:AV} {call:bf} {t:Tr AV} {o:Oper}
theorem Ww{a:Act}{nt:Nat}(hc:hJ P B call)(hl:∀t a,Local (call t a))(ht:TR ρ nt t a.tmps)(hg:iJ ρ)(fi:bY s)(r:Rel B ρ s.h w)(hf:dH s.nx s1.nx ρ)(h:(cW P o.op).val call t s= .ok x s1):
  (∀c,o.op≠ .defer c)/\kL P ((execOp a.eval o).run P w) (lN B ρ s s1 w x):=by
 have he:∀x v,aR t x=some v->VR ρ v (a.eval x):=fun x v=>BC ht hg
 cases dV:o.op
 all_goals rw[dV] at h
 case move y=>exact⟨by simp,(Ky (call:=call) he r h (.inl dV)).back⟩
 case assign y=>exact⟨by simp,(Ky (call:=call) he r h (.inr dV)).back⟩
 case pick c p q=>exact⟨by simp,(Ss (call:=call) he r h dV).back⟩
 case alloc e=>exact⟨by simp,(Rx (call:=call) (t:=t) r hf h dV).back⟩
 case box e y=>exact⟨by simp,(Tt (call:=call) he r hf h dV).back⟩
 case build ty parts=>exact⟨by simp,(RA (call:=call) he r h dV).back⟩
 case buildSlice ty len parts=>exact⟨by simp,(QH (call:=call) he r hf h dV).back⟩
 case load ty y=>exact⟨by simp,(St (call:=call) hc.row he fi r h dV).back⟩
 case store ty y z=>exact⟨by simp,(Ry (call:=call) he fi r h dV).back⟩
 case nilCheck y=>exact⟨by simp,(QP (call:=call) he r h dV).back⟩
 case binOp op ty y z u=>exact⟨by simp,(Tu (call:=call) he r h dV).back⟩
 case unOp op ty y=>exact⟨by simp,(U5 (call:=call) he r h dV).back⟩
 case convert src dst y=>exact⟨by simp,(Q1 (call:=call) he fi r h dV).back⟩
 case makeInterface ty y=>exact⟨by simp,(QF (call:=call) he r h dV).back⟩
 case makeFunc fn first captured=>exact⟨by simp,(QQ (call:=call) he r h dV).back⟩
 case makeMap ty y=>exact⟨by simp,(Q2 (call:=call) he r hf h dV).back⟩
 case makeSlice ty l c=>exact⟨by simp,(QM (call:=call) he r hf h dV).back⟩
 case slice ty y lo hi mx=>exact⟨by simp,(RG (call:=call) he r h dV).back⟩
 case fieldAddr ty y f=>exact⟨by simp,(QJ (call:=call) he r h dV).back⟩
 case field ty y f=>exact⟨by simp,(RC (call:=call) he r h dV).back⟩
 case indexAddr ty y z=>exact⟨by simp,(QK (call:=call) he r h dV).back⟩
 case index ty y z=>exact⟨by simp,(RD (call:=call) he r h dV).back⟩
 case lookup ty y z ok=>exact⟨by simp,(Rk (call:=call) he fi r h dV).back⟩
 case mapUpdate ty m k y=>exact⟨by simp,(JU (call:=call) he fi r h (.inl dV)).back⟩
 case insert ty m k y=>exact⟨by simp,(JU (call:=call) he fi r h (.inr dV)).back⟩
 case typeAssert y xt asserted ok=>exact⟨by simp,(Rg (call:=call) he r h dV).back⟩
 case range ty y=>exact⟨by simp,(RO (call:=call) he fi r hf h dV).back⟩
 case entry y=>exact⟨by simp,(RP (call:=call) he fi r h dV).back⟩
 case next y Iu=>
  cases Iu with
  |true=>exact⟨by simp,(Q8 (call:=call) he fi r h dV).back⟩
  |false=>exact absurd (show(fail:M AV) s= .ok x s1 from h) (by intro e;cases e)
 case extract y i=>exact⟨by simp,(Q3 (call:=call) he r h dV).back⟩
 case call c=>
  obtain⟨callee,args,ts⟩:=c
  cases callee with
  |builtin b=>exact⟨by simp,(Q6 (call:=call) hc.row hl he fi r hf h dV).back⟩
  |value f=>exact⟨by simp,Sz hc he hg fi r hf h dV⟩
  |invoke recv name=>exact⟨by simp,Rm hc he hg fi r hf h dV⟩
 all_goals (exact absurd (show(fail:M AV) s= .ok x s1 from h) (by intro e;cases e))
end
end Go.Rn
namespace Go.Rn
open Go.RowKit
variable {nt i:Nat} {ops:Array Oper} {a:Act} {t1:Tr AV} {dst:Option Tmp}
section
variable {P:Program} {B:aZ} {ρ:Ren} {w:World} {s s1:AS} {x:AV} {call:bf} {t:Tr AV} {o:Oper}
theorem KE{f:AV}{args:List AV}{vf:Value}{vs:Array Value}(hc:hJ P B call)(hg:iJ ρ)(fi:bY s)(r:Rel B ρ s.h w)(hf:dH s.nx s1.nx ρ)(n7:VR ρ f vf)(hl:aQ ρ args vs.toList)(h4:ju call f args s= .ok x s1):kL P ((do let d ←Deferred.ofValue vf vs;invoke d.target d.args:Sem Next).run P w) (lN B ρ s s1 w x):=by
 unfold ju at h4
 split at h4
 ·rename_i g first captured
  obtain⟨_,p,q,e,hp,hq⟩:=n7.Le
  have y5:aQ ρ (first++args++captured) (p++vs++q).toList:=by
   rw[Array.toList_append,Array.toList_append]
   exact(hp.append hl).append hq
  have:=hc.fn g _ x s s1 ρ w _ fi r hg hf h4 y5
  simp only[Deferred.ofValue,e,Sem.run_bind,Sem.run_pure,Result.andThen_ok,invoke]
  exact this
 ·rename_i n
  have n5:=n7
  simp only[VR] at n5
  obtain⟨b,N,hn,e⟩:=n5
  have:=hc.round n b N _ x s s1 ρ w vs fi r hg hf h4 hl hn
  simp only[Deferred.ofValue,e,Sem.run_bind,Sem.run_pure,Result.andThen_ok,invoke]
  simpa using this
 ·cases h4
theorem RR{R:Value->World->Prop}(ho:ops[i]? =some o)(hw:Region.wanted o (yielded ops a.tmps)=true)(hd:∀c,o.op≠ .defer c)(h:kL P ((execOp a.eval o).run P w) R)(b:Frame)(k:List Item)(cs:List Frame)(rest:List Nat):
  ∃v w',R v w'/\Steps P (lone (b.atR a (.inRegion ops (i::rest)::k)) cs w) (lone (b.atR (a.put o.dst v) (.inRegion ops rest::k)) cs w'):=by
 have hg:=stepGR_op (P:=P) (b:=b) (k:=k) (cs:=cs) (w:=w) (rest:=rest) ho hw
 rw[Oper.semAt_eq _ _ _ hd] at hg
 have nP:∀v,(b.atR a (.inRegion ops (i::rest)::k)).finish v=b.atR (a.put o.dst v) (.inRegion ops rest::k):=by
  intro v;rw[Frame.finish_atR,ho];rfl
 generalize hr:(execOp a.eval o).run P w=res at h
 unfold kL at h
 split at h
 ·rename_i v w'
  refine⟨v,w',h,.one (step_lone_go ?_)⟩
  rw[hg, ←nP];simp[stepG.apply,hr]
 ·rename_i w'
  refine⟨undef,w',h,.one (step_lone_go ?_)⟩
  rw[hg, ←nP];simp[stepG.apply,hr]
 ·rename_i f args w'
  obtain⟨e,lT,fr,⟨v,rfl,hR⟩,tR,ga,F2⟩:=h (b.atR a (.inRegion ops (i::rest)::k)::cs)
  have tS:step P (lone (b.atR a (.inRegion ops (i::rest)::k)) cs w)= .next (lone (Frame.enter P f args .normal) (b.atR a (.inRegion ops (i::rest)::k)::cs) w'):=
   step_lone_go (by rw[hg];simp[stepG.apply,hr,Frame.atR])
  refine⟨v,lT,hR,.head tS (Steps.trans tR (.one ?_))⟩
  rw[←nP];exact step_leave_returned F2
 ·rename_i l f tmps assign body w'
  obtain⟨v,lT,hR,tR⟩:=h (b.atR a (.inRegion ops (i::rest)::k)) cs
  have tS:step P (lone (b.atR a (.inRegion ops (i::rest)::k)) cs w)= .next (lone (Frame.round l f tmps assign body .normal) (b.atR a (.inRegion ops (i::rest)::k)::cs) w'):=
   step_lone_go (by rw[hg];simp[stepG.apply,hr,Frame.atR])
  refine⟨v,lT,hR,.head tS ?_⟩
  rw[←nP];exact tR
 ·cases h
theorem Ro(ht:TR ρ nt t a.tmps)(j:Nat)(hk:nH ops t j=true):yielded ops a.tmps j=yn ops t j:=by
  unfold nH at hk
  unfold yielded yn
  cases e1:ops[j]? with
  |none=>rfl
  | some q=>
    rw[e1] at hk
    simp only[Option.bind_some]
    simp only at hk
    cases e2:q.dst with
    |none=>rfl
    | some d=>
      rw[e2] at hk
      simp only[Option.bind_some]
      simp only at hk
      cases e4:t.get d with
      |none=>rw[e4] at hk;cases hk
      | some y=>
        have hv:=ht.2 d y e4
        rw[Array.getD_eq_getD_getElem?] at hv
        cases e3:a.tmps[d]? with
        | none=>
          rw[e3] at hv
          cases y<;>first|rfl|(exfalso;simp only[Option.getD_none,VR,Go.undef] at hv;cases hv)
        | some v=>
          rw[e3] at hv
          simp only[Option.getD_some] at hv
          cases v with
          |bool c=>rw[LU hv]
          |_=>cases y<;>first|rfl|(exfalso;simp only[VR] at hv;cases hv)
theorem Rp{g:Nat×Bool}(ht:TR ρ nt t a.tmps)(hg:o.guard=some g)(hk:nH ops t g.1=true):Region.wanted o (yielded ops a.tmps)=lZ ops g t:=by
 unfold Region.wanted lZ
 rw[hg]
 simp only[Ro ht g.1 hk]
 cases yn ops t g.1 with
 |none=>rfl
 |some b=>cases b<;>cases g.2<;>rfl
theorem vX{v:AV}(h:gW nt t dst v=some t1):(dst=none/\t1=t)\/∃d,dst=some d/\d<nt/\t1=t.put d (some v):=by
  cases dst with
  |none=>injection h with h;exact .inl ⟨rfl,h.symm⟩
  | some d=>
    have h': @Bool.rec (fun _=>Option (Tr AV)) none (some (t.put d (some v))) (Nat.blt d nt)=some t1:=h
    rw[wi] at h'
    by_cases q:d<nt
    · rw[if_pos q] at h';injection h' with h';exact .inr ⟨d,rfl,q,h'.symm⟩
    · rw[if_neg q] at h';cases h'
theorem Lf{y:AV}{v:Value}(ht:TR ρ nt t a.tmps)(kl:nt<=top)(h:gW nt t dst y=some t1)(hv:VR ρ y v):TR ρ nt t1 (a.put dst v).tmps/\(a.put dst v).defers=a.defers:=by
 rcases vX h with⟨rfl,rfl⟩|⟨d,rfl,hd,rfl⟩
 ·exact⟨ht,rfl⟩
 ·exact⟨ht.set hd kl hv,rfl⟩
structure At (B:aZ) (ρ:Ren) (s:AS) (nt:Nat) (t:Tr AV) (w:World) (a:Act):Prop where
 tr:TR ρ nt t a.tmps
 rel:Rel B ρ s.h w
 g:iJ ρ
 nt:nt<=top
 dD:bY s
def xd(P:Program)(B:aZ)(ρ:Ren)(s s1:AS)(nt:Nat)(t1:Tr AV)(w:World)(a:Act)(m:Machine)(m':Act->World->Machine):Prop:=
 ∃σ a' w',Ext s.nx s1.nx ρ σ/\At B σ s1 nt t1 w' a'/\a'.defers=a.defers/\cU B w w'/\Steps P m (m' a' w')
theorem Lg(hc:hJ P B call)(hl:∀t a,Local (call t a))(ho:ops[i]? =some o)(aW:At B ρ s nt t w a)(hf:dH s.nx s1.nx ρ)(h:fL P call nt ops o t s= .ok t1 s1)(b:Frame)(k:List Item)(cs:List Frame)(rest:List Nat):
    xd P B ρ s s1 nt t1 w a (lone (b.atR a (.inRegion ops (i::rest)::k)) cs w) (fun a' w'=>lone (b.atR a' (.inRegion ops rest::k)) cs w'):=by
  have main:∀(f:(cW P o.op).val call t s=(cW P o.op).val call t s),Region.wanted o (yielded ops a.tmps)=true->nZ (cW P o.op) o.dst call nt t s= .ok t1 s1->
      xd P B ρ s s1 nt t1 w a (lone (b.atR a (.inRegion ops (i::rest)::k)) cs w) (fun a' w'=>lone (b.atR a' (.inRegion ops rest::k)) cs w'):=by
    intro _ hw hk
    unfold nZ at hk
    obtain⟨v,s2,h1,h2⟩:=M.bG hk
    obtain⟨h3,rfl⟩:=gq h2
    obtain⟨hd,hb⟩:=Ww hc hl aW.tr aW.g aW.dD aW.rel hf h1
    obtain⟨u,w',⟨σ,e1,e2,e3,e4⟩,st⟩:=RR ho hw hd hb b k cs rest
    obtain⟨q1,q2⟩:=Lf (aW.tr.mono e1.le) aW.nt h3 e2
    exact⟨σ,a.put o.dst u,w',e1,⟨q1,e3,aW.g.mono e1.le,aW.nt,(Local.Ac P hl t o.op).dD aW.dD h1⟩,q2,e4,st⟩
  unfold fL tZ at h
  cases hg:o.guard with
  | none=>
    rw[hg] at h
    exact main rfl (by unfold Region.wanted;rw[hg]) h
  | some g=>
    rw[hg] at h
    have h':o6 ops g (cW P o.op) o.dst call nt t s= .ok t1 s1:=h
    unfold o6 at h'
    obtain⟨hk,h'⟩:=dY h'
    have hw:=Rp (ops:=ops) aW.tr hg hk
    cases q:lZ ops g t with
    |true=>rw[q] at h' hw;exact main rfl hw h'
    | false=>
      rw[q] at h' hw
      obtain⟨h3,rfl⟩:=gq (show lift (gW nt t o.dst lH) s= .ok t1 s1 from h')
      obtain⟨q1,q2⟩:=Lf aW.tr aW.nt h3 (VR.undef ρ)
      have hs:=stepR_op_skip (P:=P) (b:=b) (a:=a) (k:=k) (cs:=cs) (w:=w) (ops:=ops) (i:=i) (rest:=rest) (by simp[ho];simpa using hw)
      simp only[ho,Option.bind_some] at hs
      exact⟨ρ,a.put o.dst undef,w,Ext.refl _ _ _,⟨q1,aW.rel,aW.g,aW.nt,aW.dD⟩,q2,cU.refl _ _,.one hs⟩
theorem Lh(hc:hJ P B call)(hl:∀t a,Local (call t a))(b:Frame)(k:List Item)(cs:List Frame):∀(n i:Nat) (l:List Oper) {t t1:Tr AV} {s s1:AS} {ρ:Ren} {a:Act} {w:World},l.length=n->ops.toList.drop i=l->
    At B ρ s nt t w a->dH s.nx s1.nx ρ->iV P call nt ops l t s= .ok t1 s1->
    xd P B ρ s s1 nt t1 w a (lone (b.atR a (.inRegion ops (List.range' i n)::k)) cs w) (fun a' w'=>lone (b.atR a' k) cs w')
  | 0,i,l,t,t1,s,s1,ρ,a,w,hn,_,aW,_,h=>by
    have:l=[]:=List.eq_nil_of_length_eq_zero hn
    subst this
    obtain⟨rfl,rfl⟩:=bW (show M.pure t s= .ok t1 s1 from h)
    exact⟨ρ,a,w,Ext.refl _ _ _,aW,rfl,cU.refl _ _,.one stepR_region_end⟩
  | n + 1,i,l,t,t1,s,s1,ρ,a,w,hn,mv,aW,hf,h=>by
    cases l with
    |nil=>cases hn
    | cons o l=>
      obtain⟨t2,s2,h1,h2⟩:=M.bG (show((fL P call nt ops o t).bind (iV P call nt ops l)) s= .ok t1 s1 from h)
      have ho:ops[i]? =some o:=by
        have:(ops.toList.drop i)[0]? =some o:=by rw[mv];rfl
        rw[List.getElem?_drop] at this;simpa using this
      have YL:ops.toList.drop (i+1)=l:=by
        rw[←List.drop_drop,mv];rfl
      have qh:s.nx<=s2.nx:=(Local.fL P hl nt ops o t).le aW.dD h1
      have gz:bY s2:=(Local.fL P hl nt ops o t).dD aW.dD h1
      have uZ:s2.nx<=s1.nx:=(Local.iV P hl nt ops l t2).le gz h2
      obtain⟨σ,a',w',e1,e2,e3,e4,e5⟩:=Lg hc hl ho aW (hf.sub (Nat.le_refl _) uZ) h1 b k cs (List.range' (i+1) n)
      obtain⟨τ,Al,lT,f1,f2,f3,f4,f5⟩:=Lh hc hl b k cs n (i+1) l (by simpa using hn) YL e2 (hf.next qh e1) h2
      exact⟨τ,Al,lT,e1.trans qh uZ f1,f2,f3.trans e3,e4.trans f4,by rw[List.range'_succ];exact Steps.trans e5 f5⟩
theorem RS{id:Nat}(hc:hJ P B call)(hl:∀t a,Local (call t a))(aW:At B ρ s nt t w a)(hf:dH s.nx s1.nx ρ)(h:iV P call nt ops ops.toList t s= .ok t1 s1)(b:Frame)(k:List Item)(cs:List Frame):
  xd P B ρ s s1 nt t1 w a (lone (b.atR a (.code (.region id ops false)::k)) cs w) (fun a' w'=>lone (b.atR a' k) cs w'):=by
 obtain⟨σ,a',w',e1,e2,e3,e4,e5⟩:=Lh hc hl b k cs ops.size 0 ops.toList jQ jQ aW hf h
 exact⟨σ,a',w',e1,e2,e3,e4,.head stepR_region (by rw[List.range_eq_range'];exact e5)⟩
end
end Go.Rn
