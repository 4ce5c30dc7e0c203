import Derived.Test.YtfjgmdmfnjaoaaaGreatDoorRnGB
import Derived.IntWalk
import Derived.MapKept
import Derived.AtR
set_option maxRecDepth 100000
set_option maxHeartbeats 8000000
set_option linter.unusedSimpArgs false
set_option linter.unusedVariables false
namespace Go.Rn
open Go.RowKit
variable {v:Value} {ty:TypeId} {real l hh:Nat} {nY jt EB:Option Value} {lo:Option AV} {a:AV} {b:Bool}
section
variable {P:Program} {B:aL} {ρ:aw} {w:World} {s s1:AS} {x:AV} {YO:aK} {t:Tr AV} {ev:Operand->Value} {o:Oper}
def pE(ρ:aw):Option AV->Option Value->Prop
 |none,v=>v=none
 |some a,v=>∃u,v=some u/\VR ρ a u
theorem NR(he:∀x v,aI t x=some v->VR ρ v (ev x)){y:Option Operand}{a:Option AV}(h:opt (aI t) y=some a):pE ρ a<|y.map ev:=by
 cases y with
 |none=>simp only[opt] at h;injection h with h;subst h;rfl
 |some y=>
  simp only[opt] at h;cases e:aI t y with
  |none=>rw[e] at h;cases h
  |some v=>simp only[e] at h;injection h with h;subst h;exact⟨_,rfl,he y v e⟩
theorem Fj{tU n d:Nat}{code:BoundsCode}(ha:VR ρ a v)(h:bound (some a) tU d=some n)(hr:tU<=real):(Instr.sliceBound v real code).run P w= .ok n w/\n<=tU:=by
 unfold bound at h;cases e:intOf a with
 |none=>simp only[e] at h;cases h
 |some i=>simp only[e] at h;obtain⟨k,_,rfl⟩:=ha.C7 e;obtain⟨rfl,hn⟩:=Ar h;have hr:(0:Int)<=(n:Int)/\(n:Int)<=(real:Int):=⟨by omega,by omega⟩;refine⟨?_,by omega⟩;simp only[Instr.sliceBound,asIntOf,Sem.run_bind,Sem.run_pure,Result.andThen_ok,if_pos hr,Int.toNat_natCast]
theorem H4{hi:Option AV}{len low:Nat}(h1:pE ρ lo nY)(h2:pE ρ hi jt)(hr:low<=real)(e1:bound hi low len=some hh)(e2:bound lo hh 0=some l):
 (Instr.sliceBounds b len real nY jt none).run P w= .ok (l,hh,real) w/\(hi=none/\hh=len\/hh<=low)/\l<=hh:=by
 have g1:∃c,(match jt,(none:Option Value) with
  |some v,some _=>Instr.sliceBound v real .slice3B
  |some v,none=>Instr.sliceBound v real c
  |none,none=>pure len
  |none,some _=>stuck "Slice: max without high" :Sem Nat).run P w= .ok hh w/\c=(if b then BoundsCode.sliceAcap else .sliceAlen)/\(hi=none/\hh=len\/hh<=low):=by
  cases hi with
  |none=>
   simp only[pE] at h2;subst h2;simp only[bound] at e1;injection e1 with e1;subst e1
   exact⟨_,rfl,rfl,.inl ⟨rfl,rfl⟩⟩
  |some a=>obtain⟨u,rfl,hu⟩:=h2;obtain⟨a1,a2⟩:=Fj (P:=P) (w:=w) (code:=if b then BoundsCode.sliceAcap else .sliceAlen) hu e1 hr;exact⟨_,a1,rfl,.inr a2⟩
 obtain⟨c,g1,rfl,g2⟩:=g1;have g3:(match nY with
  |some v=>Instr.sliceBound v hh (if(none:Option Value).isSome then BoundsCode.slice3C else .sliceB)
  |none=>pure 0:Sem Nat).run P w= .ok l w/\l<=hh:=by
  cases lo with
  |none=>
   simp only[pE] at h1;subst h1;simp only[bound] at e2;injection e2 with e2;subst e2
   exact⟨rfl,Nat.zero_le _⟩
  |some a=>obtain⟨u,rfl,hu⟩:=h1;exact Fj (P:=P) (w:=w) hu e2<|Nat.le_refl _
 refine⟨?_,g2,g3.2⟩;cases jt<;>cases nY<;>simp_all [Instr.sliceBounds]
theorem RO{len low m:Nat}{c:AV}(h1:pE ρ lo nY)(h2:pE ρ (some a) jt)(h3:pE ρ (some c) EB)(hr:low<=real)(e0:bound (some c) low 0=some m)(e1:bound (some a) m 0=some hh)(e2:bound lo hh 0=some l):
 (Instr.sliceBounds b len real nY jt EB).run P w= .ok (l,hh,m) w/\l<=hh/\hh<=m/\m<=low:=by
 obtain⟨u,rfl,hu⟩:=h2;obtain⟨v,rfl,hv⟩:=h3;have q0:=fun code=>Fj (P:=P) (w:=w) (code:=code) hv e0 hr;have q1:=fun code=>Fj (P:=P) (w:=w) (code:=code) hu e1<|Nat.le_refl _;cases lo with
 |none=>
  simp only[pE] at h1;subst h1;simp only[bound] at e2;injection e2 with e2;subst e2
  refine⟨?_,Nat.zero_le _,(q1 .slice3B).2,(q0 .slice3B).2⟩;simp[Instr.sliceBounds,(q0 _).1,(q1 _).1]
 |some y=>obtain⟨z,rfl,hz⟩:=h1;have q2:=fun code=>Fj (P:=P) (w:=w) (code:=code) hz e2<|Nat.le_refl _;refine⟨?_,(q2 .slice3B).2,(q1 .slice3B).2,(q0 .slice3B).2⟩;simp[Instr.sliceBounds,(q0 _).1,(q1 _).1,(q2 _).1]
theorem Y2{e:TypeId}{lo hi mx:Option Value}(h:P.underlying ty=some (.slice e)):(Instr.sliceAt ty v lo hi mx).run P w=(Instr.slice ty v lo hi mx).run P w:=by simp[Instr.sliceAt,dy h]
theorem Zx{hi mx:Option AV}(ha:VR ρ a v)(h1:pE ρ lo nY)(h2:pE ρ hi jt)(h3:pE ρ mx EB)(h:w6 P ty a lo hi mx=some x):
    ∃q,(Instr.sliceAt ty v nY jt EB).run P w= .ok q w/\VR ρ x q:=by
  unfold w6 at h
  split at h<;>first|(cases h;done)|skip
  · 
    rename_i e p len cap e1
    cases ek:eF P e with
    |none=>simp only[ek] at h;cases h
    | some k=>
      simp only[ek] at h
      rw[Y2 e1]
      have hv:∃q real,v= .slice q len real/\iP len cap<=real/\len<=real\/∃q real,v= .slice q len real/\cap= .known real:=by
        cases p with
        |none=>obtain⟨rfl,rfl,rfl⟩:=ma ha;exact⟨none,0,.inr ⟨none,0,rfl,rfl⟩⟩
        | some p=>
          obtain⟨n,i⟩:=p
          cases cap with
          |known c=>simp only[VR] at ha;obtain⟨b,N,_,rfl⟩:=ha;exact⟨none,0,.inr ⟨_,c,rfl,rfl⟩⟩
          |aq b0 e0=>simp only[VR] at ha;obtain⟨b,N,c,_,rfl,h5,h6,_⟩:=ha;exact⟨_,c,.inl ⟨rfl,h5,h6⟩⟩
          |lost=>simp only[VR] at ha;obtain⟨rfl,b,N,_,c,_,rfl⟩:=ha;exact⟨_,c,.inl ⟨rfl,by simp[iP],Nat.zero_le _⟩⟩
      clear hv
      cases mx with
      | some mx =>
        simp only[] at h
        have hl:cap≠ .lost:=by intro e2;subst e2;cases h
        have h':slice3 k p (iP len cap) lo hi mx=some x:=by
          cases cap<;>first|exact h|exact absurd rfl hl
        clear h
        unfold slice3 at h'
        cases e2:bound (some mx) (iP len cap) 0 with
        |none=>simp only[e2] at h';cases h'
        | some m=>
          simp only[e2] at h'
          cases hi with
          |none=>cases h'
          | some hi =>
            simp only[] at h'
            cases e3:bound (some hi) m 0 with
            |none=>simp only[e3] at h';cases h'
            | some hh=>
              simp only[e3] at h'
              cases e4:bound lo hh 0 with
              |none=>simp only[e4] at h';cases h'
              | some l=>
                simp only[e4] at h'
                cases p with
                | none=>
                  obtain⟨rfl,rfl,rfl⟩:=ma ha
                  simp only[] at h';injection h' with h';subst h'
                  obtain⟨g1,g2,g3,g4⟩:=RO (P:=P) (w:=w) (b:=true) (len:=0) (real:=0) h1 h2 h3 (Nat.le_refl _) e2 e3 e4
                  have g4':m<=0:=g4
                  refine⟨.slice none 0 0,?_,?_⟩
                  · have z1:m=0:=by omega
                    have z2:hh=0:=by omega
                    have z3:l=0:=by omega
                    subst z1;subst z2;subst z3
                    simp[Instr.slice,dy e1,g1,iM ek]
                  · have z1:hh - l=0:=by omega
                    have z2:m - l=0:=by omega
                    rw[z1,z2];simp[VR]
                | some p=>
                  obtain⟨n,i⟩:=p
                  simp only[] at h'
                  have hv:∃b N real,ρ n=some (b,N)/\v= .slice (some ⟨b,i,none⟩) len real/\iP len cap<=real:=by
                    cases cap with
                    |known c=>simp only[VR] at ha;obtain⟨b,N,e5,rfl⟩:=ha;exact⟨b,N,c,e5,rfl,by simp[iP]⟩
                    |aq b0 e0=>simp only[VR] at ha;obtain⟨b,N,c,e5,rfl,h5,h6,_⟩:=ha;exact⟨b,N,c,e5,rfl,h5⟩
                    |lost=>exact absurd rfl hl
                  obtain⟨b,N,real,e5,rfl,agA⟩:=hv
                  obtain⟨g1,g2,g3,g4⟩:=RO (P:=P) (w:=w) (b:=true) (len:=len) h1 h2 h3 agA e2 e3 e4
                  cases e6:Nat.beq m l with
                  | true=>
                    simp only[e6] at h';injection h' with h';subst h'
                    have Ca:=dT.1 e6
                    refine⟨.slice (some ⟨b,i,none⟩) (hh - l)<|m - l,?_,by simp only[VR];exact⟨b,N,e5,rfl⟩⟩
                    subst Ca;simp[Instr.slice,dy e1,g1,iM ek]
                  | false=>
                    simp only[e6] at h';injection h' with h';subst h'
                    have ct:¬m=l:=by rw[←beq_eq,e6];simp
                    refine⟨.slice (some ⟨b,i+l*k,none⟩) (hh - l)<|m - l,?_,by simp only[VR];exact⟨b,N,e5,rfl⟩⟩
                    simp[Instr.slice,dy e1,g1,iM ek,ct,Addr.rf]
      | none=>
        simp only[pE] at h3;subst h3
        simp only[] at h
        cases e3:bound hi (iP len cap) len with
        |none=>simp only[e3] at h;cases h
        | some hh =>
          simp only[e3] at h
          cases e4:bound lo hh 0 with
          |none=>simp only[e4] at h;cases h
          | some l=>
            simp only[e4] at h
            cases p with
            | none=>
              obtain⟨rfl,rfl,rfl⟩:=ma ha
              simp only[] at h;injection h with h;subst h
              obtain⟨g1,g2,g3⟩:=H4 (P:=P) (w:=w) (b:=true) (len:=0) (real:=0) h1 h2 (Nat.le_refl _) e3 e4
              have z1:hh=0:=by rcases g2 with⟨_,e⟩|e<;>omega
              have z2:l=0:=by omega
              subst z1;subst z2
              refine⟨.slice none 0 0,?_,by simp[VR]⟩
              simp[Instr.slice,dy e1,g1,iM ek]
            | some p=>
              obtain⟨n,i⟩:=p
              cases cap with
              | known c=>
                simp only[] at h
                simp only[VR] at ha;obtain⟨b,N,e5,rfl⟩:=ha
                obtain⟨g1,g2,g3⟩:=H4 (P:=P) (w:=w) (b:=true) (len:=len) (real:=c) h1 h2 (by simp[iP]) e3 e4
                cases e6:Nat.beq c l with
                | true=>
                  simp only[e6] at h;injection h with h;subst h
                  have Ca:=dT.1 e6
                  refine⟨.slice (some ⟨b,i,none⟩) (hh - l)<|c - l,?_,by simp only[VR];exact⟨b,N,e5,rfl⟩⟩
                  subst Ca;simp[Instr.slice,dy e1,g1,iM ek]
                | false=>
                  simp only[e6] at h;injection h with h;subst h
                  have ct:¬c=l:=by rw[←beq_eq,e6];simp
                  refine⟨.slice (some ⟨b,i+l*k,none⟩) (hh - l)<|c - l,?_,by simp only[VR];exact⟨b,N,e5,rfl⟩⟩
                  simp[Instr.slice,dy e1,g1,iM ek,ct,Addr.rf]
              | aq b0 e0=>
                simp only[] at h
                simp only[VR] at ha;obtain⟨b,N,c,e5,rfl,h5,h6,h7⟩:=ha
                obtain⟨g1,g2,g3⟩:=H4 (P:=P) (w:=w) (b:=true) (len:=len) (real:=c) h1 h2 h5 e3 e4
                have hhc:hh<=c:=by
                  rcases g2 with⟨_,e⟩|e
                  · omega
                  · have e':hh<=b0:=e
                    omega
                cases e6:Nat.beq l 0 with
                | true=>
                  simp only[e6] at h;injection h with h;subst h
                  have Ca:=dT.1 e6
                  refine⟨.slice (some ⟨b,i,none⟩) (hh - l)<|c - 0,?_,?_⟩
                  · subst Ca;by_cases q:c=0
                    · subst q;simp[Instr.slice,dy e1,g1,iM ek]
                    · simp[Instr.slice,dy e1,g1,iM ek,q,Addr.rf]
                  · simp only[VR];exact⟨b,N,c,e5,rfl,h5,by omega,h7⟩
                |false=>simp only[e6] at h;cases h
              |lost=>cases h
  · -- an array,by its address
    rename_i len e n i e1
    cases ek:eF P e with
    |none=>simp only[ek] at h;cases h
    | some k=>
      simp only[ek] at h
      cases mx with
      |some _=>cases h
      | none=>
        simp only[pE] at h3;subst h3
        simp only[] at h
        cases e2:bound hi len len with
        |none=>simp only[e2] at h;cases h
        | some hh=>
          simp only[e2] at h
          cases e3:bound lo hh 0 with
          |none=>simp only[e3] at h;cases h
          | some l=>
            simp only[e3] at h
            simp only[VR] at ha;obtain⟨b,N,e5,rfl⟩:=ha
            obtain⟨g1,g2,g3⟩:=H4 (P:=P) (w:=w) (b:=false) h1 h2 (Nat.le_refl _) e2 e3
            cases e6:Nat.beq len l with
            | true=>
              simp only[e6] at h;injection h with h;subst h
              have Ca:=dT.1 e6
              refine⟨.slice (some ⟨b,i,none⟩) (hh - l)<|len - l,?_,by simp only[VR];exact⟨b,N,e5,rfl⟩⟩
              subst Ca;simp[Instr.sliceAt,dy e1,Instr.sureAddr,g1,iM ek]
            | false=>
              simp only[e6] at h;injection h with h;subst h
              have ct:¬len=l:=by rw[←beq_eq,e6];simp
              refine⟨.slice (some ⟨b,i+l*k,none⟩) (hh - l)<|len - l,?_,by simp only[VR];exact⟨b,N,e5,rfl⟩⟩
              simp[Instr.sliceAt,dy e1,Instr.sureAddr,g1,iM ek,ct,Addr.rf]
theorem Z0{y:Operand}{lo hi mx:Option Operand}(he:∀x v,aI t x=some v->VR ρ v (ev x))(r:Rel B ρ s.h w)(h:td P ty y lo hi mx YO t s= .ok x s1)(ho:o.op= .slice ty y lo hi mx):fZ P B ρ s s1 w x<|execOp ev o:=by unfold td at h;obtain⟨a,h1,h2⟩:=bu h;obtain⟨nY,h3,h4⟩:=bu h2;obtain⟨jt,h5,h6⟩:=bu h4;obtain⟨EB,h7,h8⟩:=bu h6;obtain⟨h9,rfl⟩:=hU h8;obtain⟨q,g1,g2⟩:=Zx (P:=P) (w:=w) (he y a h1) (NR he h3) (NR he h5) (NR he h7) h9;exact⟨ρ,w,.value q,Ext.refl _ _ _,by simp[execOp,ho,g1],g2,r,cL.refl _ _⟩
end
end Go.Rn
namespace Go.Rn
open Go.RowKit
variable {n:Nat} {v:Value} {ty:TypeId} {a:AV}
theorem Rel.Vt{B:aL}{ρ:aw}{h:Tr ab}{w w':World}(r:Rel B ρ h w){p:ab}{b N:Nat}(ht:n<top)(hg:h.get n=some p)(hp:p.plain=true)(cz:p.dm=false)(hr:ρ n=some (b,N))(hw:xk b w w'):
 Rel B ρ (h.put n none) w'/\∀m q,m<top->(h.put n none).get m=some q->∀M,ρ m≠some (b,M):=by
 have g:∀m,m<top->(h.put n none).get m=if m=n then none else h.get m:=fun m hm=>Tr.du _ _ _ _ ht hm
 have lP:∀m q,m<top->(h.put n none).get m=some q->∀M,ρ m≠some (b,M):=by
  intro m q hm hq M e;rw[g m hm] at hq;by_cases e2:m=n
  ·rw[if_pos e2] at hq;cases hq
  ·rw[if_neg e2] at hq;exact e2<|r.one m n q p b M N hm ht hq hg (.inr cz) e hr
 refine⟨?_,lP⟩;have hl:h.get n≠some .ku:=by intro e;rw[hg] at e;cases e;simp[ab.plain] at hp
 have r2:=r.drop ht hl;refine⟨?_,r2.one,?_,by rw[hw.size];exact r.size,r2.lone,r.fz.of (aw.le_refl _) (fun b1 _ hn=>hw.block b1 fun e=>hn n p N ht hg cz (by rw[e];exact hr)) (fun b1 _ hn=>hn.sub fun m q hm hq gX=>by
  rw[g m hm] at hq;by_cases e:m=n
  ·rw[if_pos e] at hq;cases hq
  ·rw[if_neg e] at hq;exact⟨q,hq,gX⟩),r.tk.of (aw.le_refl _) (fun m q hm hq _=>by
  rw[g m hm] at hq;by_cases e:m=n
  ·rw[if_pos e] at hq;cases hq
  ·rw[if_neg e] at hq;exact hq) (by rw[hw.size];exact Nat.le_refl _) (fun b1 _ hn=>hw.block b1 fun e=>hn n p N ht hg cz (by rw[e];exact hr)) (fun b1 _ hn=>hn.sub fun m q hm hq gX=>by
  rw[g m hm] at hq;by_cases e:m=n
  ·rw[if_pos e] at hq;cases hq
  ·rw[if_neg e] at hq;exact⟨q,hq,gX⟩) fun _ _ _ _ _ e=>e⟩
 ·intro m q hm hq;obtain⟨b1,N1,o1,h1,h2,h3,h4⟩:=r2.is m q hm hq;exact⟨b1,N1,o1,h1,(hw.block b1 fun e=>lP m q hm hq N1<|by rw[h1,e]).trans h2,h3,h4⟩
 ·intro i m es ex left cur hi hq;obtain⟨hm,fC,u⟩:=r2.iter i m es ex left cur hi hq;exact⟨hm,fC,u.mN hw.block (lP i _ hi hq)<|lP m _ hm fC⟩
section
variable {P:Program} {B:aL} {ρ:aw} {w:World} {s s1:AS} {x:AV} {YO:aK} {t:Tr AV} {ev:Operand->Value} {o:Oper}
theorem Sb(h:n<2 ^ 63):IntKind.i64.wrap (n:Int)=n:=by exact IntWalk.i64_in _ aj
theorem Y3{l c:AV}{vl vc:Value}(hl:VR ρ l vl)(hc:VR ρ c vc)(r:Rel B ρ s.h w)(hf:dF s.nx s1.nx ρ)(h:makeSlice P ty l c s= .ok x s1):jQ P B ρ s s1 w x<|Instr.makeSlice ty vl vc:=by
 unfold makeSlice at h;cases e1:P.underlying ty with
 |none=>simp only[e1] at h;cases h
 |some d=>
  cases d<;>simp only[e1] at h<;>first|(cases h;done)|skip
  rename_i e;obtain⟨il,h1,h⟩:=bu h;obtain⟨ic,h2,h⟩:=bu h;obtain⟨i,h3,h⟩:=bu h;obtain⟨nc,h4,h⟩:=bu h;obtain⟨nl,h5,h⟩:=bu h;obtain⟨z,h6,h⟩:=bu h;obtain⟨h7,h⟩:=cZ h;obtain⟨n,s2,h8,h9⟩:=M.aR h;obtain⟨rfl,rfl⟩:=bK h9;obtain⟨q1,q2⟩:=and_true.1 h7;obtain⟨q3,q4⟩:=and_true.1 q2;obtain⟨q5,q6⟩:=and_true.1 q4;have q1:=aM.1 q1;have q3:=aM.1 q3;obtain⟨k1,_,rfl⟩:=hl.C7 h1;obtain⟨k2,_,rfl⟩:=hc.C7 h2;obtain⟨rfl,jJ⟩:=Ar h4;obtain⟨rfl,KX⟩:=Ar h5;unfold room at jJ q1;obtain⟨vz,g1,g2⟩:=HZ (P:=P) (w:=w) ρ h6;obtain⟨ht,rfl,rfl⟩:=uM h8;have jg:ρ s.nx=none:=hf s.nx (Nat.le_refl _) (Nat.lt_succ_self _) aj;have hz:=g2.cells.length;simp only[Array.length_toList] at hz;have yZ:(Array.range<|nc*i.size).map (fun j=>(if nc*i.size=0 then(#[]:Array Value) else vz.cells)[j % (if nc*i.size=0 then(#[]:Array Value) else vz.cells).size]!)=(Array.range<|nc*i.size).map (fun j=>vz.cells[j % vz.cells.size]!):=by
   by_cases q:nc*i.size=0
   ·rw[q];simp
   ·simp only[if_neg q]
  refine⟨eO ρ s.nx (w.heap.size,nc*i.size),{w with heap:=w.heap.push<|.cells ((Array.range<|nc*i.size).map fun j=>vz.cells[j % vz.cells.size]!) e},.slice (some ⟨w.heap.size,0,none⟩) nl nc,Ext.mT jg,?_,?_,?_,(gV.alloc w _).below r.size⟩
  ·have w1:IntKind.i64.wrap (nl:Int)=nl:=Sb aj;have w2:IntKind.i64.wrap (nc:Int)=nc:=Sb aj;have t1:(decide ((nc:Int)<0)||decide ((i.bytes:Int)*(nc:Int)>2 ^ 48))=false:=by
    have:¬((nc:Int)<0):=by omega
    have h2:¬((i.bytes:Int)*(nc:Int)>2 ^ 48):=by
     have:(i.bytes:Int)*(nc:Int)=((nc*i.bytes:Nat):Int):=by rw[Nat.mul_comm];simp
     rw[this];omega
    rw[decide_eq_false this,decide_eq_false h2];rfl
   have t2:¬((nl:Int)<0):=by omega
   have t3:¬((nl:Int)>(nc:Int)):=by omega
   simp only[Instr.makeSlice,Sem.run_bind,dy e1,Result.andThen_ok,asInt,asIntOf,Sem.run_pure,uI h3,w1,w2];have amG:¬(((decide ((nc:Int)<0)||decide ((i.bytes:Int)*(nc:Int)>2 ^ 48))=true)\/((nl:Int)<0)\/((nl:Int)>(nc:Int))):=by
    rw[t1];rintro (e|e|e)
    ·cases e
    ·exact t2 e
    ·exact t3 e
   have ae7:((decide ((nc:Int)<0)||decide ((i.bytes:Int)*(nc:Int)>2 ^ 48))||decide ((nl:Int)<0)||decide ((nl:Int)>(nc:Int)))=false:=by rw[t1];simp[t2,t3]
   simp only[ae7,Bool.false_eq_true,if_false,Sem.run_bind,run_askRoom,Result.andThen_ok,Int.toNat_natCast,iM (show eF P e=some i.size by simp[eF,h3])];by_cases q:nc*i.size=0
   ·simp only[if_pos q] at yZ ⊢;simp only[Sem.run_bind,Sem.run_pure,Result.andThen_ok,yZ];rfl
   ·simp only[if_neg q] at yZ ⊢;simp only[Sem.run_bind,g1,Sem.run_pure,Result.andThen_ok];rfl
  ·simp only[VR];exact⟨_,_,iN _ _ _,rfl⟩
  ·refine r.new ht jg rfl ⟨_,e,rfl,by simp,Nat.le_refl _,fun j hj=>?_⟩;have agB:0<z.cells.length:=by
    rcases Nat.eq_zero_or_pos z.cells.length with h0|h0
    ·rw[h0] at q5;have:Nat.beq (nc*i.size) 0=true:=by
      cases hb:Nat.beq (nc*i.size) 0 with
      |true=>rfl
      |false=>rw[hb] at q5;simp at q5
     have:=dT.1 this;omega
    ·exact h0
   have hm:j % z.cells.length<z.cells.length:=Nat.mod_lt _ agB;obtain⟨a,ha⟩:∃a,z.cells[j % z.cells.length]? =some a:=⟨_,List.getElem?_eq_getElem hm⟩;obtain⟨v,hv,hr⟩:=g2.cells.get _ a ha;refine⟨a,v,?_,List.all_eq_true.1 q6 a<|List.mem_of_getElem? ha,?_,hr.mono<|ox jg⟩
   ·unfold cellAt;rw[Tr.get_nil];exact ha
   ·have cS:j % vz.cells.size<vz.cells.size:=by rw[←hz];exact hm
    have kh:vz.cells[j % vz.cells.size]? =some v:=by rw[←hz];simpa using hv
    simp only[Array.getElem?_map,Array.getElem?_range,if_pos hj,Option.map_some];rw[getElem!_pos vz.cells _ cS];rw[Array.getElem?_eq_getElem cS] at kh;injection kh with kh;rw[kh]
theorem YV{l c:Operand}(he:∀x v,aI t x=some v->VR ρ v (ev x))(r:Rel B ρ s.h w)(hf:dF s.nx s1.nx ρ)(h:As P ty l c YO t s= .ok x s1)(ho:o.op= .makeSlice ty l c):fZ P B ρ s s1 w x<|execOp ev o:=by unfold As at h;obtain⟨a,h1,h2⟩:=bu h;obtain⟨b,h3,h4⟩:=bu h2;have:=(Y3 (P:=P) (he l a h1) (he c b h3) r hf h4).op;simpa only[execOp,ho] using this
theorem HP{size:Nat}{l:List AV}(ha:VR ρ a v)(fi:bD s)(r:Rel B ρ s.h w)(h:firstCells size n a s= .ok l s1):
 s1.h=s.h/\s1.nx=s.nx/\∃arr:Array Value,(Builtin.firstCells size n v).run P w= .ok arr w/\aA ρ l arr.toList:=by
 cases a with
 |slice p len cap=>
  cases p with
  |none=>
   have h':(M.pure []:M<|List AV) s= .ok l s1:=by cases len<;>cases cap<;>exact h
   obtain⟨rfl,rfl⟩:=bK h';obtain⟨rfl,rfl,rfl⟩:=ma ha;exact⟨rfl,rfl, #[],rfl,by simp[aA]⟩
  |some p=>
   obtain⟨m,i⟩:=p;by_cases hc:cap= .lost
   ·subst hc;simp only[VR] at ha;obtain⟨rfl,b,N,q,c,e,rfl⟩:=ha;obtain⟨h1,h2⟩:=cZ (show(aH (Nat.beq n 0) <| (M.pure []:M<|List AV)) s= .ok l s1 from h);obtain⟨rfl,rfl⟩:=bK h2;have:=dT.1 h1;subst this;refine⟨rfl,rfl, #[],?_,by simp[aA]⟩;simp[Builtin.firstCells,loadCells,loadCellsFrom]
   ·rw[LJ hc] at h;have:∃b N c,ρ m=some (b,N)/\v= .slice (some ⟨b,i,none⟩) len c:=by
     cases cap with
     |known c=>simp only[VR] at ha;obtain⟨b,N,e,rfl⟩:=ha;exact⟨b,N,c,e,rfl⟩
     |aq lo e0=>simp only[VR] at ha;obtain⟨b,N,c,e,rfl,_⟩:=ha;exact⟨b,N,c,e,rfl⟩
     |lost=>exact absurd rfl hc
    obtain⟨b,N,c,e,rfl⟩:=this;obtain⟨a1,a2,a3,a4,vs,a5,a6,_⟩:=yF (P:=P) fi r h e;exact⟨a1,a2,vs.toArray,by simpa[Builtin.firstCells] using a5,by simpa using a6⟩
 |_=>cases h
theorem SM(ha:VR ρ a v)(h:lenOf a=some n):(Builtin.lenOf v).run P w= .ok n w:=by
 cases a with
 |slice p len cap=>
  simp only[lenOf] at h;injection h with h;subst h
  cases p with
  |none=>obtain⟨rfl,rfl,rfl⟩:=ma ha;rfl
  |some p=>obtain⟨m,i⟩:=p;obtain⟨_,_,_,_,_,rfl⟩:=uJ ha;rfl
 |_=>cases h
theorem SN(mX:Nat):∀(k c:Nat),c<=mX->Builtin.growBy mX k c<=mX+mX+800
 |0,c,h=>by simp only[Builtin.growBy];omega
 |k+1,c,h=>by
  simp only[Builtin.growBy];by_cases q:c>=mX
  ·rw[if_pos q];omega
  ·rw[if_neg q];by_cases q2:c+(c+768) / 4<=mX
   ·exact SN mX k _ q2
   ·have:∀k,Builtin.growBy mX k (c+(c+768) / 4)=c+(c+768) / 4:=by
     intro k;cases k with
     |zero=>rfl
     |succ k=>simp only[Builtin.growBy];rw[if_pos aj]
    rw[this];omega
theorem Z1{mX dz:Nat}(h:dz<mX):Builtin.nextslicecap mX dz<=2*mX+4096:=by
 unfold Builtin.nextslicecap;split
 ·omega
 ·split
  ·omega
  ·have:=SN mX 4 dz aj;omega
theorem abZ{elem:TypeId}{i:TypeInfo}{sv xv:Value}{base:Option Addr}{len c:Nat}{xt:Option TypeId}{args:Array TypeId}{sT:TypeId}{dz new:Array Value}{zv:Value}(hs:sv= .slice base len c)(hu:P.underlying sT=some (.slice elem))(yf:args[0]? =some sT)(uu:args[1]? =xt)(hx:pj P xt=true)(hi:P.info? elem=some i)(hn:(Builtin.lenOf xv).run P w= .ok n w)(bB:c<len+n)(tL:2*(len+n)*i.bytes+4096*i.bytes<=room)(hb:i.bytes≠0)(ho:(Builtin.firstCells i.size len sv).run P {w with drawn:=w.drawn+1}= .ok dz {w with drawn:=w.drawn+1})(hw:(Builtin.firstCells i.size n xv).run P {w with drawn:=w.drawn+1}= .ok new {w with drawn:=w.drawn+1})(hz:∀w':World,(zeroValue elem).run P w'= .ok zv w'):
    ∃ rest:List Value,∃nc,len+n<=nc/\rest.length=(nc - (len+n))*zv.cells.size/\(Builtin.append_ args 0 #[sv,xv]).run P w=
      .ok (.slice (some ⟨w.heap.size,0,none⟩) (len+n) nc) {w with heap:=w.heap.push<|.cells ((dz++new).toList++rest).toArray elem,drawn:=w.drawn+1}:=by
  subst hs
  have Kp:=Z1 bB
  have hmul:Builtin.nextslicecap (len+n) c*i.bytes<=2 ^ 48:=by
    have:=Nat.mul_le_mul_right i.bytes Kp
    have e:(2*(len+n)+4096)*i.bytes=2*(len+n)*i.bytes+4096*i.bytes:=Nat.add_mul _ _ _
    unfold room at tL
    omega
  have hnc:∃nc,len+n<=nc/\(choose<|.appendCap (len+n) c elem).run P w= .ok nc {w with drawn:=w.drawn+1}:=by
    refine⟨len+n+w.tape w.drawn (.appendCap (len+n) c elem) % (2 ^ 63 - (len+n)),by omega,?_⟩
    rw[run_choose]
    simp[Question.forced,Question.cut]
  obtain⟨nc,aiu,WS⟩:=hnc
  refine⟨(Builtin.zeroCells zv.cells<|nc - (len+n)).toList,nc,aiu,by simp[Builtin.zeroCells],?_⟩
  have hle:¬(len+n<=c):=by omega
  have XD:¬(((len+n:Nat):Int)>IntKind.i64.max/\(False\/i.bytes=0)):=by
    rintro ⟨_,e|e⟩
    · cases e
    · exact hb e
  have WT:¬(Builtin.nextslicecap (len+n) c*i.bytes>2 ^ 48):=by omega
  have eL:∀w':World,(Go.newRow elem<|dz++new++Builtin.zeroCells zv.cells (nc - (len+n))).run P w'= .ok ⟨w'.heap.size,0,none⟩ {w' with heap:=w'.heap.push<|.cells ((dz++new).toList++(Builtin.zeroCells zv.cells<|nc - (len+n)).toList).toArray elem}:=by
    intro w'
    have e:((dz++new).toList++(Builtin.zeroCells zv.cells<|nc - (len+n)).toList).toArray=dz++new++Builtin.zeroCells zv.cells (nc - (len+n)):=by
      rw[←Array.toList_append]
    rw[e];rfl
  unfold pj at hx
  cases xt with
  | none=>
    simp only[Builtin.append_,yf,uu]
    simp only[show(#[Value.slice base len c,xv]:Array Value)[0]? =some (.slice base len c) from rfl,show(#[Value.slice base len c,xv]:Array Value)[1]? =some xv from rfl]
    simp only[Sem.run_bind,dy hu,Result.andThen_ok,iM (show eF P elem=some i.size by simp[eF,hi]),Sem.run_pure,Bool.false_eq_true,if_false,hn,if_neg hle,uI hi]
    rw[if_neg XD]
    simp only[Sem.run_bind,uI hi,Result.andThen_ok]
    rw[if_neg WT]
    simp only[Sem.run_bind,WS,Result.andThen_ok,uI hi,run_askRoom,ho,Bool.not_false,if_true,hw,hz,eL,Sem.run_pure]
  | some q =>
    simp only at hx
    cases e:P.underlying q with
    |none=>rw[e] at hx;cases hx
    | some d=>
      rw[e] at hx
      cases d<;>first
        |(cases hx;done)
        | (simp only[Builtin.append_,yf,uu]
           simp only[show(#[Value.slice base len c,xv]:Array Value)[0]? =some (.slice base len c) from rfl,show(#[Value.slice base len c,xv]:Array Value)[1]? =some xv from rfl]
           simp only[Sem.run_bind,dy hu,Result.andThen_ok,iM (show eF P elem=some i.size by simp[eF,hi]),Sem.run_pure,dy e,Bool.false_eq_true,if_false,hn,if_neg hle,uI hi]
           rw[if_neg XD]
           simp only[Sem.run_bind,uI hi,Result.andThen_ok]
           rw[if_neg WT]
           simp only[Sem.run_bind,WS,Result.andThen_ok,uI hi,run_askRoom,ho,Bool.not_false,if_true,hw,hz,eL,Sem.run_pure])
end
end Go.Rn
namespace Go.Rn
open Go.RowKit
variable {n size c:Nat} {elem sT:TypeId} {xv:Value} {xt:Option TypeId} {l:List AV} {i:TypeInfo} {base:Option Addr} {args:Array TypeId}
section
variable {P:Program} {B:aL} {ρ:aw} {w:World} {s s1:AS} {x:AV} {YO:aK} {t:Tr AV} {ev:Operand->Value} {o:Oper}
theorem IZ{len:Nat}{new:Array Value}{w':World}(hu:P.underlying sT=some (.slice elem))(yf:args[0]? =some sT)(uu:args[1]? =xt)(hx:pj P xt=true)(hi:eF P elem=some size)(hn:(Builtin.lenOf xv).run P w= .ok n w)(hle:len+n<=c)(hw:(Builtin.firstCells size n xv).run P w= .ok new w)(cm:(match base with|some a=>storeCells (a.add<|len*size) new.toList|none=>pure ()).run P w= .ok () w'):
    (Builtin.append_ args 0 #[.slice base len c,xv]).run P w= .ok (.slice base (len+n) c) w':=by
  have jg:base=none->w'=w:=by
    intro e;subst e
    have aiv:Result.ok () w= .ok () w':=cm
    injection aiv with _ e;exact e.symm
  unfold pj at hx
  cases xt with
  | none=>
    simp only[Builtin.append_,yf,uu]
    simp only[show(#[Value.slice base len c,xv]:Array Value)[0]? =some (.slice base len c) from rfl,show(#[Value.slice base len c,xv]:Array Value)[1]? =some xv from rfl]
    simp only[Sem.run_bind,dy hu,Result.andThen_ok,iM hi,Sem.run_pure,Bool.false_eq_true,if_false,hn,if_pos hle,Bool.not_false,if_true,hw]
    cases base with
    |none=>simp only[Sem.run_pure,jg rfl]
    |some a=>simp only[Sem.run_bind,show(storeCells (a.add<|len*size) new.toList).run P w= .ok () w' from cm,Result.andThen_ok,Sem.run_pure]
  | some q =>
    simp only at hx
    cases e:P.underlying q with
    |none=>rw[e] at hx;cases hx
    | some d=>
      rw[e] at hx
      cases d<;>first
        |(cases hx;done)
        | (simp only[Builtin.append_,yf,uu]
           simp only[show(#[Value.slice base len c,xv]:Array Value)[0]? =some (.slice base len c) from rfl,show(#[Value.slice base len c,xv]:Array Value)[1]? =some xv from rfl]
           simp only[Sem.run_bind,dy hu,Result.andThen_ok,iM hi,Sem.run_pure,dy e,Bool.false_eq_true,if_false,hn,if_pos hle,Bool.not_false,if_true,hw]
           cases base with
           |none=>simp only[Sem.run_pure,jg rfl]
           |some a=>simp only[Sem.run_bind,show(storeCells (a.add<|len*size) new.toList).run P w= .ok () w' from cm,Result.andThen_ok,Sem.run_pure])
theorem Y4(hi:P.info? elem=some i)(h:sQ i=true):∃zv,(∀w':World,(zeroValue elem).run P w'= .ok zv w')/\zv.cells.size=i.size:=by
 unfold sQ at h;cases e:i.zero with
 |none=>rw[e] at h;cases h
 |some v=>rw[e] at h;exact⟨v,fun w'=>by simp[zeroValue,uI hi,e],dT.1 h⟩
theorem Y5{off:Nat}{vs:List Value}{u:Unit}{b N:Nat}(fi:bD s)(r:Rel B ρ s.h w)(hN:off+l.length<=N)(h:wN n off l s= .ok u s1)(hn:ρ n=some (b,N))(hl:aA ρ l vs):
 s1.nx=s.nx/\∃w',(storeCells ⟨b,off,none⟩ vs).run P w= .ok () w'/\Rel B ρ s1.h w'/\cL B w w':=by
 cases l with
 |nil=>simp only[aA] at hl;subst hl;have h':M.pure () s= .ok u s1:=h;obtain⟨_,rfl⟩:=bK h';exact⟨rfl,w,rfl,r,cL.refl _ _⟩
 |cons x l=>
  unfold wN at h;obtain⟨o,s2,h1,h2⟩:=M.aR h;obtain⟨hx,hg,hh,cQ⟩:=fX h1;have ht:n<top:=Nat.lt_of_lt_of_le hx fi.nx;obtain⟨o',hb,hO,hB⟩:=r.block ht hg hn;cases o with
  |cells m t z=>
   obtain⟨q1,q2⟩:=cZ h2;obtain⟨q3,q4⟩:=and_true.1 q1;obtain⟨q5,q6⟩:=and_true.1 q4;obtain⟨_,_,_,e1,e2⟩:=kr q2;obtain⟨c,e,rfl,hc,hm,row⟩:=hO;have hlen:(x::l).length=vs.length:=hl.length;have h3:off<=m:=aM.1 q3;have h4:max m (off+(x::l).length)<=top:=aM.1 q5;have h5:∀y∈x::l,y.cf=true:=fun y hy=>List.all_eq_true.1 q6 y hy;have cm:=Mx (P:=P) (off:=off) (vs:=vs) hb aj<|HR hl h5;obtain⟨g1,g2⟩:=LY (cs:=(c.toList.take off++vs++c.toList.drop (off+vs.length)).toArray) hb;refine⟨by rw[e2,cQ],_,cm,?_,g1.below<|hB rfl⟩;rw[e1,hh];refine r.put ht hg rfl rfl hn rfl g1 g2 ?_;refine⟨_,e,rfl,(size_set aj).trans hc,?_,?_⟩
   ·show max m (off+(x::l).length)<=N;omega
   ·have h6:max m (off+(x::l).length)<=c.size:=by omega
    exact Row.set (ρ:=ρ) (c:=c) (n:=m) row hl h5 h3 rfl h6 h4
  |_=>cases h2
theorem Mz{sv:Value}{len:Nat}{dz new:List AV}{vo vn:Array Value}(hs:sv= .slice base len c)(hu:P.underlying sT=some (.slice elem))(yf:args[0]? =some sT)(uu:args[1]? =xt)(hx:pj P xt=true)(hi:P.info? elem=some i)(hz:sQ i=true)(hn:(Builtin.lenOf xv).run P w= .ok n w)(bB:c<len+n)(r:Rel B ρ s.h w)(hf:dF s.nx s1.nx ρ)(gm:dz.length=len*i.size)(v9:new.length=n*i.size)(ho:(Builtin.firstCells i.size len sv).run P {w with drawn:=w.drawn+1}= .ok vo {w with drawn:=w.drawn+1})(hw:(Builtin.firstCells i.size n xv).run P {w with drawn:=w.drawn+1}= .ok vn {w with drawn:=w.drawn+1})(XE:aA ρ dz vo.toList)(Cc:aA ρ new vn.toList)(h:grown i.size i.bytes (len+n) dz new s= .ok x s1):jQ P B ρ s s1 w x<|Builtin.append_ args 0 #[sv,xv]:=by
 unfold grown at h;obtain⟨h1,h2⟩:=cZ h;obtain⟨m,s2,h3,h4⟩:=M.aR h2;obtain⟨rfl,rfl⟩:=bK h4;obtain⟨h5,h6⟩:=and_true.1 h1;have tL:=aM.1 h5;have hb:i.bytes≠0:=by intro e;rw[e] at h6;simp at h6
 obtain⟨zv,hz1,hz2⟩:=Y4 (P:=P) hi hz;obtain⟨rest,nc,g1,g2,g3⟩:=abZ (P:=P) (w:=w) hs hu yf uu hx hi hn bB tL hb ho hw hz1;have r1:Rel B ρ s.h {w with drawn:=w.drawn+1}:=r.D7<|gV.drew w;obtain⟨rfl,k1,σ,k2,k3,k4,k5⟩:=Me (P:=P) elem rest r1 hf h3<|XE.append Cc;have e:vo.toList++vn.toList++rest=(vo++vn).toList++rest:=by simp
 refine⟨σ,_,_,k2,g3,?_,?_,(gV.trans (gV.drew w)<|gV.alloc _ _).below r.size⟩
 ·simp only[VR];refine⟨_,_,nc,k3,rfl,g1,g1,?_⟩;have e1:=XE.length;have e2:=Cc.length;simp only[List.length_append];rw[←e1, ←e2,gm,v9,g2,hz2,Nat.zero_add, ←Nat.add_mul, ←Nat.add_mul];exact Nat.le_of_eq (by congr 1;omega)
 ·rw[e] at k5;exact k5
theorem ajS{len:Nat}{base:Option<|Nat×Nat}{cap:cC}{v:Value}(fi:bD s)(r:Rel B ρ s.h w)(ha:VR ρ (.slice base len cap) v)(hc:cap≠ .lost)(h:firstCells size len (.slice base len cap) s= .ok l s1):l.length=len*size:=by
 cases base with
 |none=>obtain⟨rfl,rfl,rfl⟩:=ma ha;obtain⟨rfl,rfl⟩:=bK (show(M.pure []:M<|List AV) s= .ok l s1 from h);simp
 |some p=>obtain⟨m,i⟩:=p;rw[LJ hc] at h;obtain⟨b,N,q,k,hn,rfl⟩:=uJ ha;exact(yF (P:=(default:Program)) fi r h hn).2.2.1
end
end Go.Rn
namespace Go.Rn
open Go.RowKit
variable {α:Type} {vb va:Value} {v:α} {ts:Array TypeId} {size n:Nat} {s2:AS} {a:AV}
theorem YN.cO{m:M α}(hm:YN m){s s1:AS}(fi:bD s)(h:m s= .ok v s1):bD s1:=by obtain⟨dr,dw,d,_⟩:=hm s v s1 fi h;exact d.cO fi
theorem YN.le{m:M α}(hm:YN m){s s1:AS}(fi:bD s)(h:m s= .ok v s1):s.nx<=s1.nx:=by obtain⟨dr,dw,d,_⟩:=hm s v s1 fi h;exact d.nx
section
variable {P:Program} {B:aL} {ρ:aw} {w:World} {s s1:AS} {x:AV} {YO:aK} {t:Tr AV} {ev:Operand->Value} {o:Oper}
theorem jQ.nx{c:Sem Value}(h:jQ P B ρ s2 s1 w x c)(e:s2.nx=s.nx):jQ P B ρ s s1 w x c:=by unfold jQ at h ⊢;rw[e] at h;exact h
theorem RP{elem sT:TypeId}{len c m b N:Nat}{xv:Value}{xt:Option TypeId}{args:Array TypeId}{dz new:List AV}{vn:Array Value}{p:ab}{bytes:Nat}{vo:List Value}(hu:P.underlying sT=some (.slice elem))(yf:args[0]? =some sT)(uu:args[1]? =xt)(hx:pj P xt=true)(hi:eF P elem=some size)(hn:(Builtin.lenOf xv).run P w= .ok n w)(hle:len+n<=c)(r:Rel B ρ s.h w)(ht:m<top)(hg:s.h.get m=some p)(hp:p.yL=true)(hm:ρ m=some (b,N))(hc:c*size<=N)(hf:dF s.nx s1.nx ρ)(gm:dz.length=len*size)(v9:new.length=n*size)(iK:s2.h=s.h.put m none)(Qm:s2.nx=s.nx)(hw:(Builtin.firstCells size n xv).run P w= .ok vn w)(hold:∀j v,vo[j]? =some v->w.cell? ⟨b,0+j,none⟩=some v)(ho:aA ρ dz vo)(Cc:aA ρ new vn.toList)(h:grown size bytes (len+n) dz new s2= .ok x s1):jQ P B ρ s s1 w x<|Builtin.append_ args 0 #[.slice (some ⟨b,0,none⟩) len c,xv]:=by
 obtain⟨o',hb,hO,hB⟩:=r.block ht hg hm;cases p with
 |cells k tr z=>
  obtain⟨c0,e0,rfl,ju,hk,row⟩:=hO;unfold grown at h;obtain⟨_,h2⟩:=cZ h;obtain⟨q,s3,h3,h4⟩:=M.aR h2;obtain⟨rfl,rfl⟩:=bK h4;unfold newRow at h3;obtain⟨q1,q2⟩:=cZ h3;obtain⟨q3,q4⟩:=and_true.1 q1;obtain⟨EC,rfl,rfl⟩:=uM q2;have vN:∀y∈dz++new,y.cf=true:=fun y hy=>List.all_eq_true.1 q4 y hy;have hlen:(dz++new).length<=top:=aM.1 q3;have hvl:=Cc.length;have XF:=ho.length;have hmul:len*size+n*size<=c*size:=by rw[←Nat.add_mul];exact Nat.mul_le_mul_right _ hle
  have Kq:len*size+vn.toList.length<=c0.size:=by omega
  have cm:=Mx (P:=P) (off:=len*size) (vs:=vn.toList) hb Kq<|HR Cc fun y hy=>vN y<|List.mem_append_right _ hy;obtain⟨g1,g2⟩:=LY (cs:=(c0.toList.take (len*size)++vn.toList++c0.toList.drop (len*size+vn.toList.length)).toArray) hb;have xR:=IZ (P:=P) (w:=w) (base:=some ⟨b,0,none⟩) hu yf uu hx hi hn hle hw (by show(storeCells ((Addr.mk b 0 none).add<|len*size) vn.toList).run P w=_;rw[Addr.rf,Nat.zero_add];exact cm);obtain⟨d1,d2⟩:=r.Vt ht hg rfl rfl hm g1;have jg:ρ s2.nx=none:=hf s2.nx aj (Nat.lt_succ_self _) aj;refine⟨eO ρ s2.nx (b,N),_,_,?_,xR,?_,?_,g1.below<|hB rfl⟩
  ·rw[←Qm];exact Ext.mT jg
  ·simp only[VR];exact⟨b,N,c,iN _ _ _,rfl,hle,hle,by omega⟩
  ·show Rel B _ (s2.h.put s2.nx<|some<|.cells (dz++new).length (Tr.fill (dz++new) 0 .nil) []) _;rw[iK];refine d1.name EC jg rfl g2 (fun _=>hB rfl) (fun k' sh=>by
    cases e:ρ (Rn.hn k' b sh) with
    |none=>rfl
    |some x=>obtain⟨_,_,_,_,_,_,_,q3,_⟩:=r.fz k' b sh (by rw[e];exact fun h=>by cases h);exact absurd hm<|q3 m _ N ht hg rfl) d2 ?_ (r.tk.of (ox jg) (fun j q hj hq xS=>by
    rw[Tr.du _ _ _ _ EC hj] at hq;by_cases e:j=s2.nx
    ·rw[if_pos e] at hq;cases hq;cases xS
    ·rw[if_neg e,Tr.du _ _ _ _ ht hj] at hq;by_cases e2:j=m
     ·rw[if_pos e2] at hq;cases hq
     ·rw[if_neg e2] at hq;exact hq) (by rw[g1.size];exact Nat.le_refl _) (fun b1 _ hn=>g1.block b1 fun e=>hn m _ N ht hg rfl (by rw[e];exact hm)) (fun b1 _ hn j q M hj hq gX e2=>by
    rw[Tr.du _ _ _ _ EC hj] at hq;by_cases e:j=s2.nx
    ·subst e;rw[iN] at e2;cases e2;exact hn m _ N ht hg rfl hm
    ·rw[if_neg e,Tr.du _ _ _ _ ht hj] at hq;rw[gI ρ _ e] at e2;by_cases e3:j=m
     ·rw[if_pos e3] at hq;cases hq
     ·rw[if_neg e3] at hq;exact hn j q M hj hq gX e2) (fun j x sh _ _ e=>by rw[gI ρ _ (by have:=fY j x sh;omega)];exact e))
   refine⟨_,e0,rfl,?_,?_,fun i hi=>?_⟩
   ·exact(size_set Kq).trans ju
   ·simp only[List.length_append];omega
   ·simp only[List.length_append] at hi;obtain⟨a,ha⟩:∃a,(dz++new)[i]? =some a:=⟨(dz++new)[i]'(by simp;exact hi),List.getElem?_eq_getElem _⟩;have mJ:=yG (l:=dz++new) (i:=i) hlen (by simp;exact hi);obtain⟨v,hv,hr⟩:=(ho.append Cc).get i a ha;refine⟨a,v,by rw[mJ];exact ha,vN a<|List.mem_of_getElem? ha,?_,hr.mono<|ox jg⟩;simp only[List.getElem?_toArray];by_cases q:i<len*size
    ·rw[List.getElem?_append_left aj] at hv;have:=hold i v hv;simp only[World.cell?,hb,Nat.zero_add] at this;rw[List.append_assoc,List.getElem?_append_left vX,List.getElem?_take_of_lt q];simpa using this
    ·rw[List.getElem?_append_right aj] at hv;have hvi:i - vo.length<vn.toList.length:=(List.getElem?_eq_some_iff.1 hv).1;rw[List.append_assoc,List.getElem?_append_right vX];simp only[List.length_take,Array.length_toList];rw[Nat.min_eq_left aj,List.getElem?_append_left aj];rw[show i - len*size=i - vo.length from by omega];exact hv
 |_=>cases hp
theorem Zf{b:AV}(ha:VR ρ a va)(hb:VR ρ b vb)(fi:bD s)(r:Rel B ρ s.h w)(hf:dF s.nx s1.nx ρ)(h:ph P ts a b s= .ok x s1):
 jQ P B ρ s s1 w x (Builtin.append_ ts 0 #[va,vb]):=by
 unfold ph at h;obtain⟨sT,h1,h⟩:=bu h;cases e1:P.underlying sT with
 |none=>simp only[e1] at h;cases h
 |some d=>
  cases d<;>simp only[e1] at h<;>first|(cases h;done)|skip
  rename_i elem;cases a<;>simp only at h<;>first|(cases h;done)|skip
  rename_i base len cap _;obtain⟨i,h2,h⟩:=bu h;obtain⟨h3,h⟩:=cZ h;obtain⟨hz,hx⟩:=and_true.1 h3;obtain⟨n,h4,h⟩:=bu h;obtain⟨new,s2,h5,h⟩:=M.aR h;obtain⟨h6,h⟩:=cZ h;have v9:=dT.1 h6;have hi:eF P elem=some i.size:=by simp[eF,h2]
  obtain⟨k1,k2,vn,k3,k4⟩:=HP (P:=P) hb fi r h5;have rd:Rel B ρ s.h {w with drawn:=w.drawn+1}:=r.D7<|gV.drew w;obtain⟨_,_,vn',KY,KZ⟩:=HP (P:=P) hb fi rd h5;have hn:=SM (P:=P) (w:=w) hb h4;have eG:bD s2:=(YN.firstCells _ _ _).cO fi h5;have r2:Rel B ρ s2.h w:=by rw[k1];exact r
  have zW:Rel B ρ s2.h {w with drawn:=w.drawn+1}:=by rw[k1];exact rd
  unfold qY at h;cases cap with
  |lost=>cases h
  |known c=>
   simp only at h;cases q:Nat.ble (len+n) c with
   |true=>
    simp only[q] at h;have hle:=aM.1 q;obtain⟨u,s3,h7,h8⟩:=M.aR h;obtain⟨rfl,rfl⟩:=bK h8;cases base with
    |none=>
     obtain⟨rfl,rfl⟩:=bK h7;obtain⟨rfl,hc,rfl⟩:=ma ha;cases hc;have o8:n=0:=by omega
     subst o8;refine⟨ρ,w,_,by rw[k2];exact Ext.refl _ _ _,IZ (P:=P) (w:=w) (base:=none) e1 h1 rfl hx hi hn hle k3 rfl,?_,r2,cL.refl _ _⟩;simp[VR]
    |some p=>obtain⟨m,j⟩:=p;have wa:=ha;simp only[VR] at wa;obtain⟨bb,N,hm,rfl⟩:=wa;obtain⟨g1,w',g2,g3,g4⟩:=LK (P:=P) eG r2 h7 hm k4;refine⟨ρ,w',_,by rw[g1,k2];exact Ext.refl _ _ _,IZ (P:=P) (w:=w) (base:=some ⟨bb,j,none⟩) e1 h1 rfl hx hi hn hle k3 (by show(storeCells ((Addr.mk bb j none).add<|len*i.size) vn.toList).run P w=_;rw[Addr.rf];exact g2),?_,g3,g4⟩;simp only[VR];exact⟨bb,N,hm,rfl⟩
   |false=>
    simp only[q] at h;have bB:c<len+n:=by
     rcases Nat.lt_or_ge c (len+n) with e|e
     ·exact e
     ·rw[aM.2 e] at q;cases q
    obtain⟨dz,s3,h7,h8⟩:=M.aR h;obtain⟨j1,j2,vo,j3,j4⟩:=HP (P:=P) ha eG zW h7;have XF:=ajS eG r2 ha (by intro e;cases e) h7;have:∃Wc:Option Addr,va= .slice Wc len c:=by
     cases base with
     |none=>obtain⟨rfl,hc,rfl⟩:=ma ha;cases hc;exact⟨_,rfl⟩
     |some p=>obtain⟨m,j⟩:=p;simp only[VR] at ha;obtain⟨_,_,_,rfl⟩:=ha;exact⟨_,rfl⟩
    obtain⟨Wc,hva⟩:=this;refine jQ.nx (s2:=s3) (Mz (P:=P) hva e1 h1 rfl hx h2 hz hn bB (by rw[j1];exact r2) (by rw[j2,k2];exact hf) XF v9 j3 KY j4 KZ h8) (by rw[j2,k2])
  |aq lo sz=>
   obtain⟨h7,h⟩:=cZ h;have:=dT.1 h7;subst this;cases q:Nat.ble (len+n) lo with
   |true=>
    simp only[q] at h;have hle:=aM.1 q;cases base with
    |none=>cases h
    |some p=>
     obtain⟨m,j⟩:=p;simp only at h;obtain⟨u,s3,h8,h9⟩:=M.aR h;obtain⟨rfl,rfl⟩:=bK h9;have wa:=ha;simp only[VR] at wa;obtain⟨bb,N,c,hm,rfl,gm,K0,hN⟩:=wa;have Kq:j+len*i.size+new.length<=N:=by have:(len+n)*i.size<=c*i.size:=Nat.mul_le_mul_right _ aj;rw[Nat.add_mul] at this;omega
     obtain⟨g1,w',g2,g3,g4⟩:=Y5 (P:=P) eG r2 Kq h8 hm k4;refine⟨ρ,w',_,by rw[g1,k2];exact Ext.refl _ _ _,IZ (P:=P) (w:=w) (base:=some ⟨bb,j,none⟩) e1 h1 rfl hx hi hn aj k3 (by show(storeCells ((Addr.mk bb j none).add<|len*i.size) vn.toList).run P w=_;rw[Addr.rf];exact g2),?_,g3,g4⟩;simp only[VR];exact⟨bb,N,c,hm,rfl,gm,by omega,hN⟩
   |false=>
    simp only[q] at h;cases base with
    |none=>cases h
    |some p=>
     obtain⟨m,j⟩:=p;cases j with
     |succ j=>cases h
     |zero=>
      simp only at h;obtain⟨dz,s3,h8,h⟩:=M.aR h;obtain⟨ob,s4,h9,h⟩:=M.aR h;obtain⟨gE,h⟩:=cZ h;obtain⟨u,s5,uv,qM⟩:=M.aR h;have wa:=ha;simp only[VR] at wa;obtain⟨bb,N,c,hm,rfl,gm,K0,hN⟩:=wa;obtain⟨j1,j2,j3,j4,vo,j5,j6,j7⟩:=yF (P:=P) eG r2 h8 hm;obtain⟨_,_,_,_,vo',Qn,Qo,_⟩:=yF (P:=P) eG zW h8 hm;obtain⟨i1,i2,i3,i4⟩:=fX h9;obtain⟨i5,i6,i7,i8,i9⟩:=kr uv;have hh:s4.h=s2.h:=i3.trans j1;have cQ:s4.nx=s.nx:=(i4.trans j2).trans k2;by_cases hq:len+n<=c
      ·refine jQ.nx (s2:=s2) ?_ k2;refine RP (P:=P) (s:=s2) (s2:=s5) (p:=ob) (vo:=vo) e1 h1 rfl hx hi hn hq r2 i6 (by rw[←j1];exact i2) gE hm aj (by rw[k2];exact hf) j3 v9 (by rw[i8,hh]) (by rw[i9,cQ,k2]) k3 j7 j6 k4 qM
      ·have Qp:s4.h.get m≠some .ku:=by intro e;rw[i3,i2] at e;injection e with e;subst e;cases gE
       refine jQ.nx (s2:=s5) (Mz (P:=P) rfl e1 h1 rfl hx h2 hz hn aj (by rw[i8];exact Rel.drop (by rw[hh];exact r2) i6 Qp) (by rw[i9,cQ];exact hf) j3 v9 (by simpa[Builtin.firstCells] using Qn) KY (by simpa using Qo) KZ qM) (by rw[i9,cQ])
theorem RA{o k:Nat}{v:Value}{l:List AV}{YO:aK}(eL:Be B YO)(ht:top<=n)(hb:VR ρ (.U n o k) v)(fi:bD s)(r:Rel B ρ s.h w)(h:sR YO n o (k*size) s= .ok l s1):
 s1.h=s.h/\s1.nx=s.nx/\l.length=k*size/\(Builtin.lenOf v).run P w= .ok k w/\∃arr:Array Value,(Builtin.firstCells size k v).run P w= .ok arr w/\aA ρ l arr.toList:=by
 rcases Nat.eq_zero_or_pos (k*size) with hk|hk
 ·rw[show sR YO n o (k*size)=M.pure [] from by rw[hk];rfl] at h;obtain⟨rfl,rfl⟩:=bK h;refine⟨rfl,rfl,hk.symm,?_⟩;simp only[VR] at hb;rcases hb with⟨_,rfl,a0,c,rfl,_⟩|⟨b,sh,c,e,rfl,_⟩
  ·refine⟨rfl, #[],?_,by simp[aA]⟩;cases a0<;>simp[Builtin.firstCells,loadCells,loadCellsFrom]
  ·refine⟨rfl, #[],?_,by simp[aA]⟩;simp[Builtin.firstCells,loadCells,loadCellsFrom,hk]
 rw[show sR YO n o (k*size)=(YO (.row n o<|k*size) []).bind fun x=>match x with
  | .agg l=>aH (Nat.beq l.length<|k*size) <| M.pure l
  |_=>fail from by obtain⟨m,hm⟩:∃m,k*size=m+1:=⟨k*size - 1,by omega⟩;rw[hm];rfl] at h
 obtain⟨x,s2,h1,h2⟩:=M.aR h;split at h2<;>first|(cases h2;done)|skip
 rename_i l';obtain⟨h3,h4⟩:=cZ h2;obtain⟨rfl,rfl⟩:=bK h4;obtain⟨a1,a2,a3⟩:=eL _ _ _ _ _ _ _ _ fi r h1;have hlen:=dT.1 h3;refine⟨a1,a2,hlen,?_⟩;simp only[VR] at hb;rcases hb with⟨_,rfl,a0,c,rfl,hz⟩|⟨b,sh,c,e,rfl,_⟩
 ·have:l=[]:=List.eq_nil_of_length_eq_zero (by rw[hlen,Nat.zero_mul]);subst this;refine⟨rfl, #[],?_,by simp[aA]⟩;cases a0<;>simp[Builtin.firstCells,loadCells,loadCellsFrom]
 ·obtain⟨l2,vs,e2,e3,e4,c',et,fr,e5,e6⟩:=a3 b sh<|e.high ht;injection e2 with e2
  subst e2;have Gl:=IA (P:=P) (w:=w) e5 e6;rw[e3] at Gl;exact⟨rfl,vs.toArray,by simpa[Builtin.firstCells] using Gl,by simpa using e4⟩
theorem Zy{n0 o0 k0:Nat}{YO:aK}(eL:Be B YO)(hl:∀t a,YN<|YO t a)(ha:VR ρ a va)(hb:VR ρ (.U n0 o0 k0) vb)(fi:bD s)(r:Rel B ρ s.h w)(hf:dF s.nx s1.nx ρ)(h:AQ P YO ts a n0 o0 k0 s= .ok x s1):
 jQ P B ρ s s1 w x (Builtin.append_ ts 0 #[va,vb]):=by
 unfold AQ at h;obtain⟨dO,h⟩:=cZ h;have dO:=aM.1 dO;obtain⟨sT,h1,h⟩:=bu h;cases e1:P.underlying sT with
 |none=>simp only[e1] at h;cases h
 |some d=>
  cases d<;>simp only[e1] at h<;>first|(cases h;done)|skip
  rename_i elem;obtain⟨m,len,cap,rfl⟩:∃m len cap,a= .slice (some (m,0)) len cap:=by
   cases a with
   |slice base len cap=>
    cases base with
    |none=>cases h
    |some p=>
     obtain⟨m,j⟩:=p;cases j with
     |succ j=>cases h
     |zero=>exact⟨m,len,cap,rfl⟩
   |_=>cases h
  obtain⟨i,h2,h⟩:=bu h;obtain⟨h3,h⟩:=cZ h;obtain⟨hz,hx⟩:=and_true.1 h3;obtain⟨dq,h⟩:=cZ h;obtain⟨new,s2,h5,h⟩:=M.aR h;have hi:eF P elem=some i.size:=by simp[eF,h2]
  obtain⟨k1,k2,v9,hn,vn,k3,k4⟩:=RA (P:=P) eL dO hb fi r h5;have rd:Rel B ρ s.h {w with drawn:=w.drawn+1}:=r.D7<|gV.drew w;obtain⟨_,_,_,_,vn',KY,KZ⟩:=RA (P:=P) eL dO hb fi rd h5;have eG:bD s2:=(YN.sR hl _ _ _).cO fi h5;have r2:Rel B ρ s2.h w:=by rw[k1];exact r
  have zW:Rel B ρ s2.h {w with drawn:=w.drawn+1}:=by rw[k1];exact rd
  have wa:∃bb N c,ρ m=some (bb,N)/\va= .slice (some ⟨bb,0,none⟩) len c/\len<=c/\0+c*i.size<=N:=by
   cases cap with
   |lost=>cases dq
   |known c=>obtain⟨q1,q2⟩:=and_true.1 dq;have q1:=dT.1 q1;have q2:=dT.1 q2;subst q1;subst q2;simp only[VR] at ha;obtain⟨bb,N,e,hv⟩:=ha;exact⟨bb,N,0,e,hv,Nat.le_refl _,by omega⟩
   |aq lo sz=>have:=dT.1 dq;subst this;simp only[VR] at ha;obtain⟨bb,N,c,hm,hv,_,K0,hN⟩:=ha;exact⟨bb,N,c,hm,hv,K0,hN⟩
  obtain⟨bb,N,c,hm,rfl,K0,hN⟩:=wa;obtain⟨dz,s3,h8,h⟩:=M.aR h;obtain⟨ob,s4,h9,h⟩:=M.aR h;obtain⟨gE,h⟩:=cZ h;obtain⟨u,s5,uv,qM⟩:=M.aR h;obtain⟨j1,j2,j3,j4,vo,j5,j6,j7⟩:=yF (P:=P) eG r2 h8 hm;obtain⟨_,_,_,_,vo',Qn,Qo,_⟩:=yF (P:=P) eG zW h8 hm;obtain⟨i1,i2,i3,i4⟩:=fX h9;obtain⟨i5,i6,i7,i8,i9⟩:=kr uv;have hh:s4.h=s2.h:=i3.trans j1;have cQ:s4.nx=s.nx:=(i4.trans j2).trans k2;by_cases hq:len+k0<=c
  ·refine jQ.nx (s2:=s2) ?_ k2;refine RP (P:=P) (s:=s2) (s2:=s5) (p:=ob) (vo:=vo) e1 h1 rfl hx hi hn hq r2 i6 (by rw[←j1];exact i2) gE hm aj (by rw[k2];exact hf) j3 v9 (by rw[i8,hh]) (by rw[i9,cQ,k2]) k3 j7 j6 k4 qM
  ·have Qp:s4.h.get m≠some .ku:=by intro e;rw[i3,i2] at e;injection e with e;subst e;cases gE
   refine jQ.nx (s2:=s5) (Mz (P:=P) rfl e1 h1 rfl hx h2 hz hn aj (by rw[i8];exact Rel.drop (by rw[hh];exact r2) i6 Qp) (by rw[i9,cQ];exact hf) j3 v9 (by simpa[Builtin.firstCells] using Qn) KY (by simpa using Qo) KZ qM) (by rw[i9,cQ])
end
end Go.Rn
namespace Go.Rn
open Go.RowKit
variable {ts:Array TypeId} {vs:Array Value} {va:Value} {ty:TypeId} {consts:Array Bool} {b:Builtin} {a:AV}
section
variable {P:Program} {B:aL} {ρ:aw} {w:World} {s s1:AS} {x:AV} {YO:aK} {t:Tr AV} {ev:Operand->Value} {o:Oper}
theorem Z2{b:AV}{vb:Value}(ha:VR ρ a va)(hb:VR ρ b vb)(fi:bD s)(r:Rel B ρ s.h w)(h:yW P ts a b s= .ok x s1):
 jQ P B ρ s s1 w x (Builtin.copy_ ts 0 #[va,vb]):=by
 unfold yW at h;obtain⟨sT,h1,h⟩:=bu h;cases e1:P.underlying sT with
 |none=>simp only[e1] at h;cases h
 |some d=>
  cases d<;>simp only[e1] at h<;>first|(cases h;done)|skip
  rename_i elem;cases a<;>simp only at h<;>first|(cases h;done)|skip
  rename_i base len cap _;obtain⟨k,h2,h⟩:=bu h;obtain⟨n,h3,h⟩:=bu h;obtain⟨h4,h⟩:=cZ h;obtain⟨cells,s2,h5,h⟩:=M.aR h;obtain⟨u,s3,h6,h7⟩:=M.aR h;obtain⟨rfl,rfl⟩:=bK h7;have hn:=SM (P:=P) (w:=w) hb h3;obtain⟨k1,k2,vn,k3,k4⟩:=HP (P:=P) hb fi r h5;have eG:bD s2:=(YN.firstCells _ _ _).cO fi h5;have r2:Rel B ρ s2.h w:=by rw[k1];exact r
  cases base with
  |none=>obtain⟨_,rfl⟩:=bK h6;obtain⟨rfl,hc,rfl⟩:=ma ha;refine⟨ρ,w,.int .i64 (Nat.min n 0:Nat),by rw[k2];exact Ext.refl _ _ _,?_,by simp only[VR],r2,cL.refl _ _⟩;simp only[Builtin.copy_,h1,show(#[Value.slice none 0 0,vb]:Array Value)[0]? =some (.slice none 0 0) from rfl,show(#[Value.slice none 0 0,vb]:Array Value)[1]? =some vb from rfl,Sem.run_bind,dy e1,Result.andThen_ok,hn,iM h2,k3,Sem.run_pure,goInt]
  |some p=>
   obtain⟨m,i⟩:=p;have hq:∃bb N c,ρ m=some (bb,N)/\va= .slice (some ⟨bb,i,none⟩) len c:=by
    cases cap with
    |known c=>simp only[VR] at ha;obtain⟨bb,N,e,rfl⟩:=ha;exact⟨bb,N,c,e,rfl⟩
    |aq lo e0=>simp only[VR] at ha;obtain⟨bb,N,c,e,rfl,_⟩:=ha;exact⟨bb,N,c,e,rfl⟩
    |lost=>cases h4
   obtain⟨bb,N,c,hm,rfl⟩:=hq;obtain⟨g1,w',g2,g3,g4⟩:=LK (P:=P) eG r2 h6 hm k4;refine⟨ρ,w',.int .i64 (Nat.min n len:Nat),by rw[g1,k2];exact Ext.refl _ _ _,?_,by simp only[VR],g3,g4⟩;simp only[Builtin.copy_,h1,show(#[Value.slice (some ⟨bb,i,none⟩) len c,vb]:Array Value)[0]? =some (.slice (some ⟨bb,i,none⟩) len c) from rfl,show(#[Value.slice (some ⟨bb,i,none⟩) len c,vb]:Array Value)[1]? =some vb from rfl,Sem.run_bind,dy e1,Result.andThen_ok,hn,iM h2,k3,Sem.run_pure,goInt,g2]
theorem dV.length:∀{x:List<|AV×AV} {l:List MapEntry},dV ρ x l->x.length=l.length
 |[],l,k=>by have k':l=[]:=k;subst k';rfl
 |_::_,_,k=>by obtain⟨e,es,rfl,_,_,d⟩:=k;simp[dV.length d]
theorem ab0(ha:VR ρ a va)(fi:bD s)(r:Rel B ρ s.h w)(h:zE P ts a s= .ok x s1):
    jQ P B ρ s s1 w x (Builtin.len_ ts 0 #[va]):=by
  unfold zE at h
  have h9:=M.aR h
  clear h
  obtain⟨sT,s0,h0,h⟩:=h9
  obtain⟨h1,K2⟩:=hU h0
  clear h0
  subst K2
  have XG:(#[va]:Array Value)[0]? =some va:=rfl
  cases e1:P.underlying sT with
  |none=>simp only[e1] at h;cases h
  | some d=>
    have fin:∀n:Nat,(Builtin.len_ ts 0 #[va]).run P w= .ok (goInt n) w->x= .int .i64 n->s1.h=s0.h->s1.nx=s0.nx->jQ P B ρ s0 s1 w x (Builtin.len_ ts 0 #[va]):=by
      intro n hr hx hh cQ
      subst hx
      exact⟨ρ,w,_,by rw[cQ];exact Ext.refl _ _ _,hr,by simp only[VR,goInt],by rw[hh];exact r,cL.refl _ _⟩
    cases d<;>simp only[e1] at h<;>first|(cases h;done)|skip
    case slice e=>
      cases a<;>first|(cases h;done)|skip
      case slice base len cap=>
        obtain⟨rfl,rfl⟩:=bK h
        have:∃p c,va= .slice p len c:=by
          cases base with
          |none=>obtain⟨rfl,_,rfl⟩:=ma ha;exact⟨_,_,rfl⟩
          |some p=>obtain⟨m,j⟩:=p;obtain⟨_,_,_,_,_,rfl⟩:=uJ ha;exact⟨_,_,rfl⟩
        obtain⟨p,c,rfl⟩:=this
        refine fin _ ?_ rfl rfl rfl
        simp only[Builtin.len_,h1,XG,Sem.run_bind,dy e1,Result.andThen_ok,Sem.run_pure]
      case U n o len=>
        obtain⟨rfl,rfl⟩:=bK h
        simp only[VR] at ha
        rcases ha with⟨_,rfl,_,_,rfl,_⟩|⟨b,sh,c,_,rfl,_⟩<;>
        (refine fin _ ?_ rfl rfl rfl
         simp only[Builtin.len_,h1,XG,Sem.run_bind,dy e1,Result.andThen_ok,Sem.run_pure])
theorem Nk{f:AV->AV->Option AV}{g:Value->Value->Sem Value}(hf:∀a b c va vb,f a b=some c->VR ρ a va->VR ρ b vb->∃vc,(g va vb).run P w= .ok vc w/\VR ρ c vc):
 ∀{l:List AV} {vs:List Value} {a c:AV} {va:Value},Dg f l a=some c->aA ρ l vs->VR ρ a va->∃vc,(vs.foldlM g va).run P w= .ok vc w/\VR ρ c vc
 |[],vs,a,c,va,h,hl,ha=>by
  simp only[aA] at hl;subst hl;simp only[Dg] at h;injection h with h;subst h
  exact⟨va,rfl,ha⟩
 |y::l,vs,a,c,va,h,hl,ha=>by
  simp only[aA] at hl;obtain⟨v,ys,rfl,hv,hl⟩:=hl;simp only[Dg] at h;cases e:f a y with
  |none=>rw[e] at h;cases h
  |some z=>simp only[e] at h;obtain⟨vz,g1,g2⟩:=hf a y z va v e ha hv;obtain⟨vc,g3,g4⟩:=Nk hf h hl g2;exact⟨vc,by simp only[List.foldlM_cons,Sem.run_bind,g1,Result.andThen_ok,g3],g4⟩
theorem ab1(a b c:AV)(va vb:Value)(h:min2 a b=some c)(ha:VR ρ a va)(hb:VR ρ b vb):∃vc,(Builtin.min2 va vb).run P w= .ok vc w/\VR ρ c vc:=by
 unfold min2 at h;split at h
 ·rename_i k x k2 y;injection h with h;subst h
  simp only[VR] at ha hb;subst ha;subst hb;refine⟨_,rfl,?_⟩;simp only[VR];by_cases q:y<x<;>simp[q]
 ·cases h
theorem ab2(a b c:AV)(va vb:Value)(h:max2 a b=some c)(ha:VR ρ a va)(hb:VR ρ b vb):∃vc,(Builtin.max2 va vb).run P w= .ok vc w/\VR ρ c vc:=by
 unfold max2 at h;split at h
 ·rename_i k x k2 y;injection h with h;subst h
  simp only[VR] at ha hb;subst ha;subst hb;refine⟨_,rfl,?_⟩;simp only[VR];by_cases q:y>x<;>simp[q]
 ·cases h
theorem Zg{l:List AV}(hl:aA ρ l vs.toList)(fi:bD s)(r:Rel B ρ s.h w)(hf:dF s.nx s1.nx ρ)(h:yI P b ts l s= .ok x s1):fZ P B ρ s s1 w x<|Go.builtin b ts ty consts vs:=by
 obtain⟨vs⟩:=vs;unfold yI at h;split at h
 ·rename_i y;simp only[aA] at hl;obtain⟨v,ys,rfl,hv,rfl⟩:=hl;exact(ab0 hv fi r h).op
 ·rename_i y z;simp only[aA] at hl;obtain⟨v,ys,rfl,hv,v2,ED,rfl,wc,rfl⟩:=hl;exact(Zf hv wc fi r hf h).op
 ·rename_i y z;simp only[aA] at hl;obtain⟨v,ys,rfl,hv,v2,ED,rfl,wc,rfl⟩:=hl;exact(Z2 hv wc fi r h).op
 ·rename_i y z;simp only[aA] at hl;obtain⟨v,ys,rfl,hv,hl⟩:=hl;obtain⟨h1,rfl⟩:=hU h;obtain⟨vc,g1,g2⟩:=Nk (P:=P) (w:=w) ab1 h1 hl hv;exact jQ.op (c:=Builtin.min_ ts ty ⟨v::ys⟩) ⟨ρ,w,vc,Ext.refl _ _ _,g1,g2,r,cL.refl _ _⟩
 ·rename_i y z;simp only[aA] at hl;obtain⟨v,ys,rfl,hv,hl⟩:=hl;obtain⟨h1,rfl⟩:=hU h;obtain⟨vc,g1,g2⟩:=Nk (P:=P) (w:=w) ab2 h1 hl hv;exact jQ.op (c:=Builtin.max_ ts ty ⟨v::ys⟩) ⟨ρ,w,vc,Ext.refl _ _ _,g1,g2,r,cL.refl _ _⟩
 ·cases h
theorem Z3{y:AV}{n q k:Nat}(eL:Be B YO)(nZ:∀t a,YN<|YO t a)(hl:aA ρ [y,.U n q k] vs.toList)(fi:bD s)(r:Rel B ρ s.h w)(hf:dF s.nx s1.nx ρ)(h:AQ P YO ts y n q k s= .ok x s1):fZ P B ρ s s1 w x<|Go.builtin .append ts ty consts vs:=by obtain⟨vs⟩:=vs;simp only[aA] at hl;obtain⟨v,ys,rfl,hv,hl⟩:=hl;obtain⟨v2,ED,rfl,wc,rfl⟩:=hl;exact(Zy eL nZ hv wc fi r hf h).op
theorem Zh{args:Array Operand}(eL:Be B YO)(nZ:∀t a,YN<|YO t a)(he:∀x v,aI t x=some v->VR ρ v (ev x))(fi:bD s)(r:Rel B ρ s.h w)(hf:dF s.nx s1.nx ρ)(h:oo P b ts args.toList YO t s= .ok x s1)(ho:o.op= .call ⟨.builtin b,args,ts⟩):fZ P B ρ s s1 w x<|execOp ev o:=by
 unfold oo at h;obtain⟨vs,h1,h2⟩:=bu h;have hl:=FC he h1;have key:(∃y n q k,b= .append/\vs=[y,.U n q k]/\AQ P YO ts y n q k s= .ok x s1)\/yI P b ts vs s= .ok x s1:=by
  split at h2
  ·exact .inl ⟨_,_,_,_,rfl,rfl,h2⟩
  ·exact .inr h2
 have all:∀consts:Array Bool,fZ P B ρ s s1 w x<|Go.builtin b ts o.type consts<|args.map ev:=fun consts=>by
  rcases key with⟨y,n,q,k,rfl,rfl,h2⟩|h2
  ·exact Z3 eL nZ (by simpa using hl) fi r hf h2
  ·exact Zg (vs:=args.map ev) (by simpa using hl) fi r hf h2
 have:=all (args.map fun| .const _=>true|_=>false);obtain⟨σ,w',nv,a1,a2,a3⟩:=this;refine⟨σ,w',nv,a1,?_,a3⟩;simp only[execOp,ho,resolve,Sem.run_bind,Sem.run_pure,Result.andThen_ok,invoke];exact a2
end
end Go.Rn
namespace Go.Rn
open Go.RowKit
variable {key a:AV} {v:Value} {r:Option<|Nat×AV} {kd:TypeDesc} {k:TypeId} {l:List MapEntry} {es:List<|AV×AV}
section
variable {P:Program} {B:aL} {ρ:aw} {w:World} {s s1:AS} {x:AV} {YO:aK} {t:Tr AV} {ev:Operand->Value} {o:Oper}
theorem LP{em:Bool}{d:Nat}{B2:TypeId->AV->Bool}(hc:∀ty a v,B2 ty a=true->VR ρ a v->(Instr.checkKey em d ty v).run P w= .ok () w){cs:List AV}{ds:Array Value}(hx:aA ρ cs ds.toList):∀{fs:List Field},Fh P B2 cs fs=true->
 (forIn fs PUnit.unit fun f _=>do
  if f.name≠ "_" then do
   Instr.checkKey em d f.type (←part f.type ds f.offset)
   pure (ForInStep.yield PUnit.unit)
  else pure (ForInStep.yield PUnit.unit):Sem PUnit).run P w= .ok PUnit.unit w
 |[],_=>rfl
 |f::fs,h=>by
  simp only[Fh] at h;rw[List.forIn_cons];cases en:(f.name == "_") with
  |true=>
   simp only[en] at h;have:¬(f.name≠ "_"):=by simpa using en
   rw[if_neg this];simp only[Sem.run_bind,Sem.run_pure,Result.andThen_ok];exact LP hc hx h
  |false=>
   simp only[en] at h;have ct:f.name≠ "_" :=by intro e;rw[e] at en;simp at en
   rw[if_pos ct];cases e1:vj P f.type cs f.offset with
   |none=>simp only[e1] at h;cases h
   |some a=>
    simp only[e1] at h;obtain⟨v,g1,g2⟩:=Fi (w:=w) hx e1;cases e2:B2 f.type a with
    |false=>simp only[e2] at h;cases h
    |true=>simp only[e2] at h;simp only[Sem.run_bind,Sem.run_pure,Result.andThen_ok,g1,hc _ _ _ e2 g2];exact LP hc hx h
theorem Im{em:Bool}:∀{d:Nat} {ty:TypeId} {a:AV} {v:Value},oJ P d ty a=true->VR ρ a v->(Instr.checkKey em d ty v).run P w= .ok () w
 |0,_,_,_,h,_=>by simp only[oJ] at h;cases h
 |d+1,ty,a,v,h,ha=>by
  simp only[oJ] at h;rw[Instr.checkKey];split at h<;>first|(cases h;done)|skip
  ·rename_i e;simp[dy e]
  ·rename_i e;simp[dy e]
  ·rename_i e;simp[dy e]
  ·rename_i fs cs e;simp only[VR] at ha;obtain⟨ds,rfl,hl⟩:=ha;simp only[Sem.run_bind,dy e,Result.andThen_ok];have:=LP (P:=P) (w:=w) (em:=em) (d:=d) (fun ty a v h1 h2=>Im h1 h2) hl h;rw[←Array.forIn_toList];simp only[this,Result.andThen_ok,Sem.run_pure]
theorem Fb{b:AV}{c:Bool}{u:Value}(hk:P.underlying k=some kd)(hp:plainKey P k a=true)(h:sameKey a b=some c)(ha:VR ρ a v)(hb:VR ρ b u):Instr.sameNow kd v u=some c:=by
 unfold plainKey at hp;rw[hk] at hp;unfold sameKey at h;split at h<;>first|(cases h;done)|skip
 ·rename_i k1 x1 k2 x2;simp only[VR] at ha hb;subst ha;subst hb;cases Qq:decide (k1=k2) with
  |false=>rw[Qq] at h;cases h
  |true=>
   rw[Qq] at h;injection h with h;subst h
   have:=of_decide_eq_true Qq;cases kd<;>first|(cases hp;done)|simp[Instr.sameNow,this]
 ·injection h with h;subst h
  simp only[VR] at ha hb;subst ha;subst hb;cases kd<;>first|(cases hp;done)|simp[Instr.sameNow]
 ·injection h with h;subst h
  simp only[VR] at ha hb;subst ha;subst hb;cases kd<;>first|(cases hp;done)|simp[Instr.sameNow]
def DK(ρ:aw)(es:List<|AV×AV)(l:List MapEntry)(i:Nat):Option (Nat×AV)->Option (Nat×Value)->Prop
 |none,r=>r=none
 |some (j,x),r=>∃y q e,r=some (j,y)/\VR ρ x y/\i<=j/\es[j - i]? =some q/\l[j - i]? =some e/\VR ρ q.1 e.key/\q.2=x/\e.val=y
theorem DK.next{i:Nat}{p:AV×AV}{e:MapEntry}{r':Option<|Nat×Value}(h:DK ρ es l (i+1) r r'):DK ρ (p::es) (e::l) i r r':=by
 cases r with
 |none=>exact h
 |some q=>
  obtain⟨j,x⟩:=q;obtain⟨y,q,e2,h1,h2,h3,h4,h5,h6⟩:=h;refine⟨y,q,e2,h1,h2,by omega,?_,?_,h6⟩
  ·rw[show j - i=(j - (i+1))+1 from by omega];simpa using h4
  ·rw[show j - i=(j - (i+1))+1 from by omega];simpa using h5
theorem Rv{k:TypeId}{kd:TypeDesc}{key:AV}{v:Value}(hk:P.underlying k=some kd)(hp:plainKey P k key=true)(hv:VR ρ key v):∀{es:List<|AV×AV} {l:List MapEntry} {i:Nat} {r:Option<|Nat×AV},
 dV ρ es l->kI key es i=some r->∃r',Instr.findNow kd v l i=some r'/\DK ρ es l i r r'
 |[],l,i,r,he,h=>by
  have Hh:l=[]:=he;subst Hh;simp only[kI] at h;injection h with h;subst h
  exact⟨none,rfl,rfl⟩
 |(a,b)::es,l,i,r,he,h=>by
  obtain⟨e,l',rfl,h1,h2,h3⟩:=he;simp only[kI] at h;cases q:sameKey key a with
  |none=>rw[q] at h;cases h
  |some c=>
   have:=Fb hk hp q hv h1;cases c with
   |true=>
    simp only[q] at h;injection h with h;subst h
    exact⟨some (i,e.val),by simp only[Instr.findNow,this],e.val,(a,b),e,rfl,h2,Nat.le_refl _,by simp,by simp,h1,rfl,rfl⟩
   |false=>simp only[q] at h;obtain⟨r',g1,g2⟩:=Rv hk hp hv h3 h;exact⟨r',by simp only[Instr.findNow,this];exact g1,g2.next⟩
theorem RB{k:TypeId}{key:AV}{v:Value}(hv:VR ρ key v):∀{es:List<|AV×AV} {l:List MapEntry} {i:Nat} {r:Option<|Nat×AV},
 dV ρ es l->Fx P k key es i=some r->∃r',(Instr.findAsking k v l i).run P w= .ok r' w/\DK ρ es l i r r'
 |[],l,i,r,he,h=>by
  have Hh:l=[]:=he;subst Hh;simp only[Fx] at h;injection h with h;subst h
  exact⟨none,rfl,rfl⟩
 |(a,b)::es,l,i,r,he,h=>by
  obtain⟨e,l',rfl,h1,h2,h3⟩:=he;simp only[Fx] at h;cases q:pQ P Op.maxDepth k key a with
  |none=>rw[q] at h;cases h
  |some c=>
   have hq:(Op.equal k v e.key).run P w= .ok c w:=IY q hv h1;cases c with
   |true=>
    simp only[q] at h;injection h with h;subst h
    exact⟨some (i,e.val),by simp[Instr.findAsking,hq],e.val,(a,b),e,rfl,h2,Nat.le_refl _,by simp,by simp,h1,rfl,rfl⟩
   |false=>simp only[q] at h;obtain⟨r',g1,g2⟩:=RB hv h3 h;exact⟨r',by simp[Instr.findAsking,hq,g1],g2.next⟩
theorem ae8{k:IntKind}{n:Int}(ha:VR ρ a<|.int k n):a= .int k n:=by
 cases a<;>(try simp only[VR] at ha)<;>first|(cases ha;rfl)|(cases ha;done)|skip
 ·rename_i q;cases q<;>simp only[VR] at ha<;>first|(cases ha;done)|(obtain⟨_,_,_,e⟩:=ha;cases e)
 ·rename_i q l c;cases q with
  |none=>obtain⟨_,_,e⟩:=ma ha;cases e
  |some q=>obtain⟨n,i⟩:=q;obtain⟨_,_,_,_,_,e⟩:=uJ ha;cases e
 ·rcases ha with⟨_,_,_,_,e,_⟩|⟨_,_,_,_,e,_⟩<;>cases e
 ·obtain⟨_,_,_,e⟩:=ha;cases e
 ·rename_i q;cases q<;>simp only[VR] at ha<;>first|(cases ha;done)|(obtain⟨_,_,_,e⟩:=ha;cases e)
 ·obtain⟨_,_,_,e,_⟩:=ha;cases e
 ·obtain⟨_,_,_,e⟩:=ha;cases e
 ·obtain⟨_,e,_⟩:=ha;cases e
 ·obtain⟨_,e,_⟩:=ha;cases e
 ·obtain⟨_,e,_⟩:=ha;cases e
theorem ae9{q:ByteArray}(hz:uk a=true)(ha:VR ρ a<|.string q):a= .str q:=by
 cases a<;>(try cases hz;done)<;>(try simp only[VR] at ha)<;>first|(cases ha;rfl)|(cases ha;done)|skip
 ·rename_i q;cases q<;>simp only[VR] at ha<;>first|(cases ha;done)|(obtain⟨_,_,_,e⟩:=ha;cases e)
 ·rename_i q l c;cases q with
  |none=>obtain⟨_,_,e⟩:=ma ha;cases e
  |some q=>obtain⟨n,i⟩:=q;obtain⟨_,_,_,_,_,e⟩:=uJ ha;cases e
 ·rcases ha with⟨_,_,_,_,e,_⟩|⟨_,_,_,_,e,_⟩<;>cases e
 ·obtain⟨_,_,_,e⟩:=ha;cases e
 ·rename_i q;cases q<;>simp only[VR] at ha<;>first|(cases ha;done)|(obtain⟨_,_,_,e⟩:=ha;cases e)
 ·obtain⟨_,_,_,e,_⟩:=ha;cases e
 ·obtain⟨_,_,_,e⟩:=ha;cases e
 ·obtain⟨_,e,_⟩:=ha;cases e
 ·obtain⟨_,e,_⟩:=ha;cases e
 ·obtain⟨_,e,_⟩:=ha;cases e
theorem UB{b:Bool}(ha:VR ρ a<|.bool b):a= .bool b:=by
 cases a<;>(try simp only[VR] at ha)<;>first|(cases ha;rfl)|(cases ha;done)|skip
 ·rename_i q;cases q<;>simp only[VR] at ha<;>first|(cases ha;done)|(obtain⟨_,_,_,e⟩:=ha;cases e)
 ·rename_i q l c;cases q with
  |none=>obtain⟨_,_,e⟩:=ma ha;cases e
  |some q=>obtain⟨n,i⟩:=q;obtain⟨_,_,_,_,_,e⟩:=uJ ha;cases e
 ·rcases ha with⟨_,_,_,_,e,_⟩|⟨_,_,_,_,e,_⟩<;>cases e
 ·obtain⟨_,_,_,e⟩:=ha;cases e
 ·rename_i q;cases q<;>simp only[VR] at ha<;>first|(cases ha;done)|(obtain⟨_,_,_,e⟩:=ha;cases e)
 ·obtain⟨_,_,_,e,_⟩:=ha;cases e
 ·obtain⟨_,_,_,e⟩:=ha;cases e
 ·obtain⟨_,e,_⟩:=ha;cases e
 ·obtain⟨_,e,_⟩:=ha;cases e
 ·obtain⟨_,e,_⟩:=ha;cases e
theorem ab3(hk:P.underlying k=some kd)(hz:uk key=true)(hp:plainKey P k key=false)(hv:VR ρ key v)(u:Value):Instr.sameNow kd v u=none:=by
 cases e:Instr.sameNow kd v u with
 |none=>rfl
 |some c=>
  exfalso;unfold Instr.sameNow at e;unfold plainKey at hp;rw[hk] at hp;split at e<;>first|(cases e;done)|skip
  ·rw[ae8 hv] at hp;cases hp
  ·rw[ae9 hz hv] at hp;cases hp
  ·rw[UB hv] at hp;cases hp
theorem Vu{o:Option<|Option<|Nat×AV}(h:(match uk key with|false=>none|true=>o)=some r):uk key=true:=by
 cases hz:uk key with
 |false=>rw[hz] at h;cases h
 |true=>rfl
theorem RQ(hk:P.underlying k=some kd)(hv:VR ρ key v)(he:dV ρ es l)(h:findKey P k key es=some r):
 ∃r',(Instr.findKey k v l).run P w= .ok r' w/\DK ρ es l 0 r r':=by
 unfold findKey at h;cases hz:uk key with
 |false=>rw[hz] at h;cases h
 |true=>
 simp only[hz] at h;cases hp:plainKey P k key with
 |true=>simp only[hp] at h;obtain⟨r',g1,g2⟩:=Rv hk hp hv he h;exact⟨r',MapKept.run_findKey hk g1,g2⟩
 |false=>
  simp only[hp] at h;obtain⟨r',g1,g2⟩:=RB (P:=P) (w:=w) hv he h;refine⟨r',?_,g2⟩;cases l with
  |nil=>
   have yd:Result.ok none w=Result.ok r' w:=g1;injection yd with yd;subst yd
   exact MapKept.run_findKey hk rfl
  |cons e l=>
   have:Instr.findNow kd v (e::l) 0=none:=by simp only[Instr.findNow,ab3 hk hz hp hv e.key]
   simp only[Instr.findKey,Sem.run_bind,dy hk,Result.andThen_ok,this];exact g1
theorem LN:∀{es:List<|AV×AV} {i:Nat},kI key es i=some none->∀p∈es,sameKey key p.1=some false
 |[],_,_,p,hp=>by cases hp
 |(a,b)::es,i,h,p,hp=>by
  simp only[kI] at h;cases q:sameKey key a with
  |none=>rw[q] at h;cases h
  |some c=>
   cases c with
   |true=>simp only[q] at h;cases h
   |false=>
    simp only[q] at h;rcases List.mem_cons.1 hp with rfl|hp
    ·exact q
    ·exact LN h p hp
theorem Rr{key:AV}:∀{es:List<|AV×AV} {i j:Nat} {x:AV},kI key es i=some (some (j,x))->i<=j/\∃q,es[j - i]? =some q/\q.2=x/\sameKey key q.1=some true
 |[],_,_,_,h=>by simp[kI] at h
 |(a,b)::es,i,j,x,h=>by
  simp only[kI] at h;cases q:sameKey key a with
  |none=>rw[q] at h;cases h
  |some c=>
   cases c with
   |true=>
    simp only[q] at h;injection h with h;injection h with h;injection h with h1 h2;subst h1;subst h2
    exact⟨Nat.le_refl _,(a,b),by simp,rfl,q⟩
   |false=>simp only[q] at h;obtain⟨h1,p,h2,h3⟩:=Rr h;refine⟨by omega,p,?_,h3⟩;rw[show j - i=(j - (i+1))+1 from by omega];simpa using h2
end
end Go.Rn
namespace Go.Rn
open Go.RowKit
variable {v u:Value} {a b key:AV} {l l':List MapEntry} {es:List<|AV×AV} {ty:TypeId} {kd:TypeDesc}
theorem LU(h:sameKey a b=some true)(c:AV):sameKey a c=sameKey b c:=by
 unfold sameKey at h;split at h<;>first|(cases h;done)|skip
 ·rename_i k x k' y;cases hk:decide (k=k') with
  |false=>rw[hk] at h;cases h
  |true=>
   rw[hk] at h;injection h with h
   have e1:=of_decide_eq_true hk;have e2:x=y:=by simpa using h
   rw[e1,e2]
 ·rename_i x y;injection h with h
  rw[bytes_beq] at h;have e:x.toList=y.toList:=by simpa using h
  cases c<;>first|rfl|simp only[sameKey,bytes_beq,e]
 ·rename_i x y;injection h with h
  have e:x=y:=by simpa using h
  rw[e]
theorem LV(a b:AV):sameKey a b=sameKey b a:=by
 cases a<;>cases b<;>first|rfl|skip
 ·rename_i x y;cases x<;>cases y<;>rfl
 ·rename_i k x k' y;by_cases e:k=k'
  ·subst e;show(match decide (k=k) with|true=>some (x == y)|false=>none)=(match decide (k=k) with|true=>some (y == x)|false=>none);rw[decide_eq_true (rfl:k=k)];show some (x == y)=some (y == x);rw[BEq.comm]
  ·show(match decide (k=k') with|true=>some (x == y)|false=>none)=(match decide (k'=k) with|true=>some (y == x)|false=>none);rw[decide_eq_false e,decide_eq_false<|Ne.symm e]
 ·rename_i x y;show some (x == y)=some (y == x);rw[bytes_beq,bytes_beq,BEq.comm]
theorem ll.at{es:List<|AV×AV}(h:ll es){i j:Nat}{p q:AV×AV}(hi:es[i]? =some p)(hj:es[j]? =some q)(ct:i≠j):sameKey p.1 q.1=some false:=by
 unfold ll at h;rw[List.pairwise_iff_getElem] at h;obtain⟨li,ei⟩:=List.getElem?_eq_some_iff.1 hi;obtain⟨lj,ej⟩:=List.getElem?_eq_some_iff.1 hj;rcases Nat.lt_or_ge i j with q'|q'
 ·have:=(h i j li lj q').1;rw[ei,ej] at this;exact this
 ·have:=(h j i lj li aj).2;rw[ei,ej] at this;exact this
theorem Mf{ρ:aw}(h:sameKey a b=some true)(ha:VR ρ a v)(hb:VR ρ b u)(m:Nat):Instr.sameBits m v u=true:=by
 unfold sameKey at h;split at h<;>first|(cases h;done)|skip
 ·rename_i k x k' y;cases hk:decide (k=k') with
  |false=>rw[hk] at h;cases h
  |true=>
   rw[hk] at h;injection h with h
   simp only[VR] at ha hb;subst ha;subst hb;have e1:=of_decide_eq_true hk;subst e1;cases m<;>simpa[Instr.sameBits] using h
 ·injection h with h
  simp only[VR] at ha hb;subst ha;subst hb;cases m<;>simpa[Instr.sameBits] using h
 ·injection h with h
  simp only[VR] at ha hb;subst ha;subst hb;cases m<;>simpa[Instr.sameBits] using h
theorem RR{ρ:aw}(m:Nat):∀{xs ys:List AV} {vs us:List Value},yO xs ys=true->aA ρ xs vs->aA ρ ys us->vs.length=us.length/\((vs.zip us).all fun(x,y)=>Instr.sameBits m x y)=true
 |[],[],vs,us,_,h1,h2=>by simp only[aA] at h1 h2;subst h1;subst h2;simp
 |[],_::_,_,_,h,_,_=>by simp[yO] at h
 |_::_,[],_,_,h,_,_=>by simp[yO] at h
 |x::xs,y::ys,vs,us,h,h1,h2=>by
  simp only[aA] at h1 h2;obtain⟨v,vs,rfl,a1,b1⟩:=h1;obtain⟨u,us,rfl,a2,b2⟩:=h2;simp only[yO] at h;cases e:sameKey x y with
  |none=>rw[e] at h;cases h
  |some c=>
   cases c with
   |false=>rw[e] at h;cases h
   |true=>rw[e] at h;obtain⟨p,q⟩:=RR m h b1 b2;exact⟨by simp[p],by simp only[List.zip_cons_cons,List.all_cons,Mf e a1 a2 m,Bool.true_and];exact q⟩
theorem Zi{ρ:aw}(h:sameBits a b=true)(ha:VR ρ a v)(hb:VR ρ b u)(m:Nat):Instr.sameBits (m+1) v u=true:=by
 unfold sameBits at h;split at h
 ·rename_i xs ys;simp only[VR] at ha hb;obtain⟨vs,rfl,h1⟩:=ha;obtain⟨us,rfl,h2⟩:=hb;obtain⟨p,q⟩:=RR m h h1 h2;simp only[Instr.sameBits,Bool.and_eq_true,beq_iff_eq];exact⟨by simpa using p,q⟩
 ·split at h
  ·rename_i e;exact Mf e ha hb _
  ·cases h
theorem SO{P:Program}{w:World}(h:Instr.sameBits 10000 v u=true):(Instr.keyThatStays v u).run P w= .ok u w:=by simp[Instr.keyThatStays,h]
theorem RC:∀{l:List MapEntry} {i:Nat},(∀e∈l,Instr.sameNow kd v e.key=some false)->Instr.findNow kd v l i=some none
 |[],_,_=>rfl
 |e::l,i,h=>by simp only[Instr.findNow,h e List.mem_cons_self];exact RC fun e he=>h e<|List.mem_cons_of_mem _ he
theorem RD{kd:TypeDesc}{v:Value}:∀{l:List MapEntry} {i:Nat},(∀e∈l,∃c,Instr.sameNow kd v e.key=some c)->(∃e∈l,Instr.sameNow kd v e.key=some true)->
 ∃j e,l[j]? =some e/\Instr.sameNow kd v e.key=some true/\Instr.findNow kd v l i=some (some (i+j,e.val))
 |[],_,_,h=>by obtain⟨_,h,_⟩:=h;cases h
 |e::l,i,h,k=>by
  obtain⟨c,hc⟩:=h e List.mem_cons_self;cases c with
  |true=>exact⟨0,e,rfl,hc,by simp only[Instr.findNow,hc,Nat.add_zero]⟩
  |false=>
   obtain⟨e2,h2,h3⟩:=k;have se:e2∈l:=by
    rcases List.mem_cons.1 h2 with rfl|h2
    ·rw[hc] at h3;cases h3
    ·exact h2
   obtain⟨j,e3,g1,g2,g3⟩:=RD (i:=i+1) (fun e he=>h e<|List.mem_cons_of_mem _ he) ⟨e2,se,h3⟩;exact⟨j+1,e3,by simpa using g1,g2,by simp only[Instr.findNow,hc];rw[g3];congr 3;omega⟩
section
variable {P:Program} {B:aL} {ρ:aw} {w:World} {s s1:AS} {x:AV} {YO:aK} {t:Tr AV} {ev:Operand->Value} {o:Oper}
theorem dV.get:∀{es:List<|AV×AV} {l:List MapEntry} {i:Nat} {e:MapEntry},dV ρ es l->l[i]? =some e->∃p,es[i]? =some p/\VR ρ p.1 e.key/\VR ρ p.2 e.val
 |[],l,i,e,h,k=>by have h':l=[]:=h;subst h';simp at k
 |p::es,l,i,e,h,k=>by
  obtain⟨e2,l2,rfl,h1,h2,h3⟩:=h;cases i with
  |zero=>simp at k;subst k;exact⟨p,rfl,h1,h2⟩
  |succ i=>simp at k;obtain⟨q,g1,g2⟩:=h3.get k;exact⟨q,by simpa using g1,g2⟩
theorem dV.get'{i:Nat}{p:AV×AV}(h:dV ρ es l)(k:es[i]? =some p):∃e,l[i]? =some e/\VR ρ p.1 e.key/\VR ρ p.2 e.val:=by obtain⟨li,ei⟩:=List.getElem?_eq_some_iff.1 k;have hl:=h.length;have hi:l[i]? =some (l[i]'aj):=List.getElem?_eq_getElem _;obtain⟨q,g1,g2⟩:=h.get hi;rw[k] at g1;cases g1;exact⟨_,hi,g2⟩
theorem RT{k:TypeId}{r:Option<|Nat×AV}(hk:P.underlying k=some kd)(hp:plainKey P k key=true)(hv:VR ρ key v)(ka:ll es)(he:dV ρ es l')(hl:l.Perm l')(h:kI key es 0=some r):
 (r=none->Instr.findNow kd v l 0=some none)/\(∀j y,r=some (j,y)->∃j' e,Instr.findNow kd v l 0=some (some (j',e.val))/\l[j']? =some e/\l'[j]? =some e/\VR ρ y e.val/\∃p,es[j]? =some p/\sameKey key p.1=some true):=by
 have ah:∀e∈l,∃(j:Nat) (p:AV×AV),l'[j]? =some e/\es[j]? =some p/\VR ρ p.1 e.key/\VR ρ p.2 e.val:=by
  intro e hm;obtain⟨j,hj,e1⟩:=List.getElem_of_mem<|hl.mem_iff.1 hm;have Cd:l'[j]? =some e:=by rw[List.getElem?_eq_getElem hj,e1]
  obtain⟨p,g1,g2,g3⟩:=he.get Cd;exact⟨j,p,Cd,g1,g2,g3⟩
 constructor
 ·intro hr;subst hr;refine RC fun e hm=>?_;obtain⟨j,p,g1,g2,g3,g4⟩:=ah e hm;exact Fb hk hp (LN h p<|List.mem_of_getElem? g2) hv g3
 ·intro j y hr;subst hr;obtain⟨_,q,h1,h2,h3⟩:=Rr h;rw[Nat.sub_zero] at h1;have all:∀e∈l,∃(j2:Nat) (p:AV×AV),l'[j2]? =some e/\es[j2]? =some p/\VR ρ p.2 e.val/\Instr.sameNow kd v e.key=some (decide<|j2=j):=by
   intro e hm;obtain⟨j2,p,g1,g2,g3,g4⟩:=ah e hm;refine⟨j2,p,g1,g2,g4,?_⟩;by_cases e2:j2=j
   ·subst e2;rw[h1] at g2;cases g2;simp only[decide_true];exact Fb hk hp h3 hv g3
   ·rw[decide_eq_false e2];refine Fb hk hp ?_ hv g3;rw[LU h3];exact ka.at h1 g2<|Ne.symm e2
  obtain⟨e0,g1,g2,g3⟩:=he.get' h1;have zX:e0∈l:=hl.mem_iff.2<|List.mem_of_getElem? g1;obtain⟨j',e,f1,f2,f3⟩:=RD (kd:=kd) (v:=v) (l:=l) (i:=0) (fun e hm=>let ⟨_,_,_,_,_,h⟩:=all e hm;⟨_,h⟩) ⟨e0,zX,Fb hk hp h3 hv g2⟩;rw[Nat.zero_add] at f3;obtain⟨j2,p,a1,a2,a3,a4⟩:=all e<|List.mem_of_getElem? f1;rw[f2] at a4;injection a4 with a4
  have e2:j2=j:=by simpa using a4.symm
  subst e2;rw[h1] at a2;cases a2;exact⟨j',e,f3,f1,a1,by rw[←h2];exact a3,q,h1,h3⟩
theorem Z4(h:short es=true)(he:dV ρ es l')(hl:l.Perm l'):dV ρ es l:=by
 have hlen:=he.length;unfold short at h;split at h<;>first|(cases h;done)|skip
 ·have:l'=[]:=by cases l'<;>first|rfl|simp at hlen
  subst this;rw[List.perm_nil.1 hl];exact he
 ·match l',hlen,hl,he with
  |[e],_,hl,he=>rw[List.perm_singleton.1 hl];exact he
theorem VR.zV{ok b:Bool}{y:AV}{v:Value}(h:VR ρ y v):VR ρ (zV ok y b) (if ok=true then .tuple #[v,.bool b] else v):=by
 cases ok with
 |false=>exact h
 |true=>simp only[Rn.zV,if_true,VR,aA];exact⟨_,rfl,v,_,rfl,h,.bool b,_,rfl,rfl,rfl⟩
theorem Mg:∀{d:Nat} {k:TypeId} {key:AV},oJ P d k key=true->∃kd,P.underlying k=some kd
 |0,_,_,h=>by simp only[oJ] at h;cases h
 |d+1,k,key,h=>by
  simp only[oJ] at h;cases q:P.underlying k with
  |none=>rw[q] at h;cases h
  |some kd=>exact⟨kd,rfl⟩
theorem Zz{ok:Bool}{va vk:Value}(ha:VR ρ a va)(pF:VR ρ key vk)(fi:bD s)(r:Rel B ρ s.h w)(h:yN P ty a key ok s= .ok x s1):
 jQ P B ρ s s1 w x (Instr.lookup ty va vk ok):=by
 unfold yN at h;cases e1:P.underlying ty with
 |none=>simp only[e1] at h;cases h
 |some d=>
  cases d<;>simp only[e1] at h<;>first|(cases h;done)|skip
  rename_i k e;obtain⟨es,s2,h1,h2⟩:=M.aR h;obtain⟨h3,h4⟩:=cZ h2;obtain⟨f,h5,h6⟩:=bu h4;have sf:∃kd,P.underlying k=some kd:=by exact Mg h3
  obtain⟨kd,sf⟩:=sf;have we:∀em,(Instr.checkKey em 10000 k vk).run P w= .ok () w:=fun em=>Im h3 pF;have main:∃l:Array MapEntry,((va= .map none/\l= #[])\/∃b ay,va= .map (some b)/\w.heap[b]? =some (.map l ay))/\s2.h=s.h/\s2.nx=s.nx/\
   ∃r',(Instr.findKey k vk l.toList).run P w= .ok r' w/\(f=none->r'=none)/\(∀j y,f=some (j,y)->∃j' z,r'=some (j',z)/\VR ρ y z):=by
   have exact:∀l:Array MapEntry,dV ρ es l.toList->∃r',(Instr.findKey k vk l.toList).run P w= .ok r' w/\(f=none->r'=none)/\(∀j y,f=some (j,y)->∃j' z,r'=some (j',z)/\VR ρ y z):=by intro l he;obtain⟨r',g1,g2⟩:=RQ (P:=P) (w:=w) sf pF he h5;refine⟨r',g1,fun q=>by subst q;exact g2,fun j y q=>?_⟩;subst q;obtain⟨z,_,_,q1,q2,_⟩:=g2;exact⟨j,z,q1,q2⟩
   unfold yX at h1;split at h1
   ·obtain⟨rfl,rfl⟩:=bK h1;simp only[VR] at ha;subst ha;exact⟨#[],.inl ⟨rfl,rfl⟩,rfl,rfl,exact #[] rfl⟩
   ·rename_i m;obtain⟨ob,s3,h7,h8⟩:=M.aR h1;obtain⟨hx,hg,hh,cQ⟩:=fX h7;have ht:m<top:=Nat.lt_of_lt_of_le hx fi.nx;simp only[VR] at ha;obtain⟨b,N,hm,rfl⟩:=ha;obtain⟨o',hb,hO,_⟩:=r.block ht hg hm;cases ob with
    |map hI ay=>obtain⟨rfl,rfl⟩:=bK h8;obtain⟨l,rfl,_,q⟩:=hO;exact⟨l,.inr ⟨b,ay,rfl,hb⟩,hh,cQ,exact l q.eqs⟩
    |jN hI=>
     obtain⟨h9,gE⟩:=cZ h8;obtain⟨rfl,rfl⟩:=bK gE;obtain⟨l,ay,rfl,ka,_,l',hp,he⟩:=hO;refine⟨l,.inr ⟨b,ay,rfl,hb⟩,hh,cQ,?_⟩;cases q:plainKey P k key with
     |false=>rw[q] at h9;exact exact l<|Z4 h9 he hp
     |true=>
      unfold findKey at h5;have hz:uk _=true:=Vu h5;simp only[hz] at h5;simp only[q] at h5;obtain⟨g1,g2⟩:=RT sf q pF ka he hp h5;cases f with
      |none=>exact⟨none,MapKept.run_findKey sf<|g1 rfl,(fun _=>rfl),(fun j y e=>by cases e)⟩
      |some p=>obtain⟨j,y⟩:=p;obtain⟨j',e,f1,_,_,f2,_⟩:=g2 j y rfl;exact⟨some (j',e.val),MapKept.run_findKey sf f1,(fun e=>by cases e),(fun j y e2=>by cases e2;exact⟨j',_,rfl,f2⟩)⟩
    |_=>cases h8
   ·cases h1
  obtain⟨l,m1,m2,m3,r',m4,m5,m6⟩:=main;cases f with
  |some p=>
   obtain⟨j,y⟩:=p;obtain⟨rfl,rfl⟩:=bK h6;obtain⟨j',z,rfl,hz⟩:=m6 j y rfl;refine⟨ρ,w,_,by rw[m3];exact Ext.refl _ _ _,?_,hz.zV,by rw[m2];exact r,cL.refl _ _⟩;rcases m1 with⟨rfl,rfl⟩|⟨b,ay,rfl,hb⟩
   ·simp only[Instr.lookup,Sem.run_bind,dy e1,Result.andThen_ok,we,m4,Sem.run_pure]
   ·simp only[Instr.lookup,Sem.run_bind,dy e1,Result.andThen_ok,MapKept.run_getObj_map hb,we,m4,Sem.run_pure]
  |none=>
   obtain⟨z,h7,h8⟩:=bu h6;obtain⟨rfl,rfl⟩:=bK h8;have:=m5 rfl;subst this;obtain⟨vz,g1,g2⟩:=HZ (P:=P) (w:=w) ρ h7;refine⟨ρ,w,_,by rw[m3];exact Ext.refl _ _ _,?_,g2.zV,by rw[m2];exact r,cL.refl _ _⟩;rcases m1 with⟨rfl,rfl⟩|⟨b,ay,rfl,hb⟩
   ·simp only[Instr.lookup,Sem.run_bind,dy e1,Result.andThen_ok,we,m4,Sem.run_pure,g1]
   ·simp only[Instr.lookup,Sem.run_bind,dy e1,Result.andThen_ok,MapKept.run_getObj_map hb,we,m4,Sem.run_pure,g1]
theorem ZA{y z:Operand}{ok:Bool}(he:∀x v,aI t x=some v->VR ρ v (ev x))(fi:bD s)(r:Rel B ρ s.h w)(h:w8 P ty y z ok YO t s= .ok x s1)(ho:o.op= .lookup ty y z ok):fZ P B ρ s s1 w x<|execOp ev o:=by unfold w8 at h;obtain⟨a,h1,h2⟩:=bu h;obtain⟨b,h3,h4⟩:=bu h2;have:=(Zz (P:=P) (he y a h1) (he z b h3) fi r h4).op;simpa only[execOp,ho] using this
end
end Go.Rn
namespace Go.Rn
open Go.RowKit
variable {key:AV} {vv vk:Value} {es:List<|AV×AV} {e:MapEntry} {ty:TypeId} {l:List MapEntry} {i ay:Nat}
theorem SP:∀(es:List<|AV×AV) (i j:Nat) (k v:AV),(putAt es i k v)[j]? =if j=i then(es[j]?).map (fun _=>(k,v)) else es[j]?
 |[],i,j,k,v=>by simp[putAt]
 |p::es,0,j,k,v=>by cases j<;>simp[putAt]
 |p::es,i+1,j,k,v=>by
  cases j with
  |zero=>simp[putAt]
  |succ j=>simp[putAt,SP es i j k v]
theorem RE:∀(es:List<|AV×AV) (i:Nat) (k v:AV),(putAt es i k v).length=es.length
 |[],_,_,_=>rfl
 |_::_,0,_,_=>rfl
 |_::es,i+1,k,v=>by simp[putAt,RE es i k v]
def rh(k v:Value)(e:MapEntry):MapEntry:={e with key:=k,val:=v}
theorem kz.put{ρ:aw}{val:AV}(hk:VR ρ key vk)(hv:VR ρ val vv):∀{es:List<|AV×AV} {l:List MapEntry} {n i:Nat},kz ρ es l n->kz ρ (putAt es i key val) (l.modify i<|rh vk vv) n
 |[],l,n,i,h=>by have h':l=[]:=h;subst h';cases i<;>rfl
 |p::es,l,n,0,h=>by obtain⟨e,l',rfl,a,b,c,d⟩:=h;exact⟨rh vk vv e,l',rfl,hk,hv,c,d⟩
 |p::es,l,n,i+1,h=>by obtain⟨e,l',rfl,a,b,c,d⟩:=h;exact⟨e,l'.modify i<|rh vk vv,rfl,a,b,c,d.put hk hv⟩
theorem dV.put{ρ:aw}{val:AV}(hk:VR ρ key vk)(hv:VR ρ val vv):∀{es:List<|AV×AV} {l:List MapEntry} {i:Nat},dV ρ es l->dV ρ (putAt es i key val) (l.modify i<|rh vk vv)
 |[],l,i,h=>by have h':l=[]:=h;subst h';cases i<;>rfl
 |p::es,l,0,h=>by obtain⟨e,l',rfl,a,b,d⟩:=h;exact⟨rh vk vv e,l',rfl,hk,hv,d⟩
 |p::es,l,i+1,h=>by obtain⟨e,l',rfl,a,b,d⟩:=h;exact⟨e,l'.modify i<|rh vk vv,rfl,a,b,d.put hk hv⟩
theorem kz.push{ρ:aw}{val:AV}(hk:VR ρ key e.key)(hv:VR ρ val e.val):∀{es:List<|AV×AV} {l:List MapEntry} {n:Nat},kz ρ es l n->e.born=n+es.length->kz ρ (es++[(key,val)]) (l++[e]) n
 |[],l,n,h,hb=>by have h':l=[]:=h;subst h';exact⟨e,[],rfl,hk,hv,hb,rfl⟩
 |p::es,l,n,h,hb=>by obtain⟨e2,l',rfl,a,b,c,d⟩:=h;exact⟨e2,l'++[e],rfl,a,b,c,d.push hk hv (by simp at hb;omega)⟩
theorem dV.push{ρ:aw}{val:AV}(hk:VR ρ key e.key)(hv:VR ρ val e.val):∀{es:List<|AV×AV} {l:List MapEntry},dV ρ es l->dV ρ (es++[(key,val)]) (l++[e])
 |[],l,h=>by have h':l=[]:=h;subst h';exact⟨e,[],rfl,hk,hv,rfl⟩
 |p::es,l,h=>by obtain⟨e2,l',rfl,a,b,d⟩:=h;exact⟨e2,l'++[e],rfl,a,b,d.push hk hv⟩
theorem ll.of(h:∀(i j:Nat) (p q:AV×AV),i≠j->es[i]? =some p->es[j]? =some q->sameKey p.1 q.1=some false):ll es:=by unfold ll;rw[List.pairwise_iff_getElem];intro i j hi hj mB;exact⟨h i j _ _ aj (List.getElem?_eq_getElem hi)<|List.getElem?_eq_getElem hj,h j i _ _ aj (List.getElem?_eq_getElem hj)<|List.getElem?_eq_getElem hi⟩
theorem ll.put(h:ll es){p:AV×AV}{val:AV}(hi:es[i]? =some p)(hk:sameKey key p.1=some true):ll<|putAt es i key val:=by
 refine ll.of fun j k a b hjk ha hb=>?_;rw[SP] at ha hb;by_cases e1:j=i
 ·have e2:k≠i:=by omega
  rw[if_pos e1,e1,hi] at ha;rw[if_neg e2] at hb;simp only[Option.map_some,Option.some.injEq] at ha;rw[←ha];show sameKey key b.1=some false;rw[LU hk];exact h.at hi hb<|Ne.symm e2
 ·rw[if_neg e1] at ha;by_cases e2:k=i
  ·rw[if_pos e2,e2,hi] at hb;simp only[Option.map_some,Option.some.injEq] at hb;rw[←hb];show sameKey a.1 key=some false;rw[LV,LU hk];exact h.at hi ha<|Ne.symm e1
  ·rw[if_neg e2] at hb;exact h.at ha hb hjk
theorem ll.push(h:ll es){val:AV}(hk:∀p∈es,sameKey key p.1=some false):ll<|es++[(key,val)]:=by unfold ll at h ⊢;rw[List.pairwise_append];refine⟨h,by simp,fun a ha b hb=>?_⟩;simp only[List.mem_singleton] at hb;subst hb;exact⟨by rw[LV];exact hk a ha,hk a ha⟩
theorem Nl{α:Type}(f:α->α):∀{l:List α} {j:Nat} {e:α},l[j]? =some e->l.Perm (e::l.eraseIdx j)/\(l.modify j f).Perm (f e::l.eraseIdx j)
 |[],j,e,h=>by simp at h
 |a::l,0,e,h=>by simp at h;subst h;exact⟨List.Perm.refl _,List.Perm.refl _⟩
 |a::l,j+1,e,h=>by
  simp at h;obtain⟨p,q⟩:=Nl f h;refine⟨?_,?_⟩
  ·exact(p.cons a).trans<|List.Perm.swap _ _ _
  ·rw[List.modify_succ_cons];exact(q.cons a).trans<|List.Perm.swap _ _ _
theorem aaQ{α:Type}(f:α->α){l l':List α}{j:Nat}{e:α}(hl:l.Perm l')(hi:l[i]? =some e)(hj:l'[j]? =some e):(l.modify i f).Perm<|l'.modify j f:=by obtain⟨p,q⟩:=Nl f hi;obtain⟨p',q'⟩:=Nl f hj;have:=((p.symm.trans hl).trans p').cons_inv;exact(q.trans<|this.cons _).trans q'.symm
theorem L6(k v:Value):∀(l:List MapEntry) (i:Nat),(l.modify i<|rh k v).map (·.born)=l.map (·.born)
 |[],i=>by cases i<;>rfl
 |e::l,0=>rfl
 |e::l,i+1=>by rw[List.modify_succ_cons];simp[L6 k v l i]
theorem s9.modify(h:s9 l ay)(k v:Value)(i:Nat):s9 (l.modify i<|rh k v) ay:=by refine⟨by rw[L6];exact h.1,fun e he=>?_⟩;have:e.born∈(l.modify i<|rh k v).map (·.born):=List.mem_map_of_mem he;rw[L6] at this;obtain⟨e2,h2,h3⟩:=List.mem_map.1 this;rw[←h3];exact h.2 e2 h2
theorem s9.push(h:s9 l ay)(he:e.born=ay):s9 (l++[e])<|ay+1:=by
 refine⟨?_,fun e2 h2=>?_⟩
 ·rw[List.map_append,List.nodup_append];refine⟨h.1,by simp,fun a ha b hb=>?_⟩;simp only[List.map_cons,List.map_nil,List.mem_singleton] at hb;obtain⟨e2,h2,h3⟩:=List.mem_map.1 ha;have:=h.2 e2 h2;omega
 ·rcases List.mem_append.1 h2 with h2|h2
  ·have:=h.2 e2 h2;omega
  ·simp only[List.mem_singleton] at h2;subst h2;omega
section
variable {P:Program} {B:aL} {ρ:aw} {w:World} {s s1:AS} {x:AV} {YO:aK} {t:Tr AV} {ev:Operand->Value} {o:Oper}
theorem CJ{w:World}{b:Nat}{o o':Obj}(hb:w.heap[b]? =some o):
 xk b w {w with heap:=w.heap.setIfInBounds b o'}/\({w with heap:=w.heap.setIfInBounds b o'}:World).heap[b]? =some o':=by
 refine⟨⟨rfl,rfl,rfl,by simp,fun k hk=>?_⟩,?_⟩
 ·show(w.heap.setIfInBounds b o')[k]? =w.heap[k]?;rw[Array.getElem?_setIfInBounds_ne aj]
 ·show(w.heap.setIfInBounds b o')[b]? =some o';exact Array.getElem?_setIfInBounds_self_of_lt<|gS hb
theorem Z5{m val:AV}{vm:Value}{u:Unit}(hm:VR ρ m vm)(pF:VR ρ key vk)(eQ:VR ρ val vv)(fi:bD s)(r:Rel B ρ s.h w)(h:xh P ty m key val s= .ok u s1):
 s1.nx=s.nx/\∃w',(Instr.mapUpdate ty vm vk vv).run P w= .ok () w'/\Rel B ρ s1.h w'/\cL B w w':=by
 unfold xh at h;cases e1:P.underlying ty with
 |none=>simp only[e1] at h;cases h
 |some d=>
  cases d<;>simp only[e1] at h<;>first|(cases h;done)|skip
  rename_i k e;cases m<;>first|(cases h;done)|skip
  rename_i q;cases q with
  |none=>cases h
  |some n=>
   simp only[VR] at hm;obtain⟨b,N,hn,rfl⟩:=hm;obtain⟨ob,s2,h1,h2⟩:=M.aR h;obtain⟨hx,hg,hh,cQ⟩:=fX h1;have ht:n<top:=Nat.lt_of_lt_of_le hx fi.nx;obtain⟨o',hb,hO,hB⟩:=r.block ht hg hn;cases ob with
   |map es ay=>
    obtain⟨h3,h4⟩:=cZ h2;obtain⟨f,h5,h6⟩:=bu h4;obtain⟨l,rfl,Dj,he⟩:=hO;obtain⟨kd,sf⟩:=Mg h3;have we:∀em,(Instr.checkKey em 10000 k vk).run P w= .ok () w:=fun em=>Im h3 pF;obtain⟨r',g1,g2⟩:=RQ (P:=P) (w:=w) sf pF he.eqs h5;cases f with
    |some p=>
     obtain⟨j,y⟩:=p;obtain⟨z,q,e0,rfl,_,_,q1,q2,q3,_,_⟩:=g2;rw[Nat.sub_zero] at q1 q2;obtain⟨dz,h7,h8⟩:=bu (show(aC es[j]? fun dz=>aH (sameBits dz.1 key) <| bN n<|some<|.map (putAt es j key val) ay) s2= .ok u s1 from h6);obtain⟨h9,gE⟩:=cZ h8;rw[q1] at h7;cases h7;have O9:=Zi h9 q3 pF 9999;obtain⟨_,_,_,i1,i2⟩:=kr gE;obtain⟨g3,g4⟩:=CJ (o':=.map (l.modify j<|rh vk vv) ay) hb;refine⟨by rw[i2,cQ],_,?_,?_,g3.below<|hB rfl⟩
     ·have hl:l[j]? =some e0:=by simpa using q2
      simp only[Instr.mapUpdate,Sem.run_bind,dy e1,Result.andThen_ok,MapKept.run_getObj_map hb,we,g1,hl,Option.map_some,Option.getD_some,SO O9,MapKept.run_setObj_map _ hb];rfl
     ·rw[i1,hh];refine r.put ht hg rfl rfl hn rfl g3 g4 ⟨_,rfl,by rw[RE];exact Dj,?_⟩;rw[Array.toList_modify];exact he.put pF eQ
    |none=>
     have vZ:r'=none:=g2;subst vZ;obtain⟨_,_,_,i1,i2⟩:=kr (show bN n (some<|.map (es++[(key,val)])<|ay+1) s2= .ok u s1 from h6);obtain⟨g3,g4⟩:=CJ (o':=.map (l.push {key:=vk,val:=vv,born:=ay})<|ay+1) hb;refine⟨by rw[i2,cQ],_,?_,?_,g3.below<|hB rfl⟩
     ·simp only[Instr.mapUpdate,Sem.run_bind,dy e1,Result.andThen_ok,MapKept.run_getObj_map hb,we,g1,MapKept.run_setObj_map _ hb]
     ·rw[i1,hh];refine r.put ht hg rfl rfl hn rfl g3 g4 ⟨_,rfl,by simp[Dj],?_⟩;rw[Array.toList_push];exact he.push pF eQ (by simp[Dj])
   |jN es=>
    obtain⟨h3,h4⟩:=cZ h2;obtain⟨f,h5,h6⟩:=bu h4;obtain⟨hp,XH⟩:=and_true.1 h3;obtain⟨l,ay,rfl,ka,zY,l',hl,he⟩:=hO;obtain⟨kd,sf⟩:=Mg XH;have we:∀em,(Instr.checkKey em 10000 k vk).run P w= .ok () w:=fun em=>Im XH pF;unfold findKey at h5;have hz:uk _=true:=Vu h5;simp only[hz] at h5;simp only[hp] at h5;obtain⟨f1,f2⟩:=RT sf hp pF ka he hl h5;cases f with
    |some p=>
     obtain⟨j,y⟩:=p;obtain⟨j',e0,a1,a2,a3,a4,q,a5,a6⟩:=f2 j y rfl;obtain⟨_,_,_,i1,i2⟩:=kr (show bN n (some<|.jN<|putAt es j key val) s2= .ok u s1 from h6);obtain⟨g3,g4⟩:=CJ (o':=.map (l.modify j'<|rh vk vv) ay) hb;have hq:VR ρ q.1 e0.key:=by obtain⟨q',b1,b2,_⟩:=he.get a3;rw[a5] at b1;cases b1;exact b2
     have O9:Instr.sameBits 10000 e0.key vk=true:=Mf (by rw[LV];exact a6) hq pF 10000;refine⟨by rw[i2,cQ],_,?_,?_,g3.below<|hB rfl⟩
     ·have yg:l[j']? =some e0:=by simpa using a2
      simp only[Instr.mapUpdate,Sem.run_bind,dy e1,Result.andThen_ok,MapKept.run_getObj_map hb,we,MapKept.run_findKey sf a1,yg,Option.map_some,Option.getD_some,SO O9,MapKept.run_setObj_map _ hb];rfl
     ·rw[i1,hh];refine r.put ht hg rfl rfl hn rfl g3 g4 ⟨_,_,rfl,ka.put a5 a6,?_,l'.modify j<|rh vk vv,?_,he.put pF eQ⟩
      ·rw[Array.toList_modify];exact zY.modify _ _ _
      ·rw[Array.toList_modify];exact aaQ _ hl a2 a3
    |none=>
     obtain⟨_,_,_,i1,i2⟩:=kr (show bN n (some<|.jN<|es++[(key,val)]) s2= .ok u s1 from h6);obtain⟨g3,g4⟩:=CJ (o':=.map (l.push {key:=vk,val:=vv,born:=ay})<|ay+1) hb;refine⟨by rw[i2,cQ],_,?_,?_,g3.below<|hB rfl⟩
     ·simp only[Instr.mapUpdate,Sem.run_bind,dy e1,Result.andThen_ok,MapKept.run_getObj_map hb,we,MapKept.run_findKey sf<|f1 rfl,MapKept.run_setObj_map _ hb]
     ·rw[i1,hh];refine r.put ht hg rfl rfl hn rfl g3 g4 ⟨_,_,rfl,ka.push<|LN h5,?_,l'++[{key:=vk,val:=vv,born:=ay}],?_,dV.push (e:={key:=vk,val:=vv,born:=ay}) pF eQ he⟩
      ·rw[Array.toList_push];exact zY.push rfl
      ·rw[Array.toList_push];exact hl.append_right _
   |_=>cases h2
theorem RU{a b c:Operand}(he:∀x v,aI t x=some v->VR ρ v (ev x))(fi:bD s)(r:Rel B ρ s.h w)(h:qf P ty a b c YO t s= .ok x s1)(ho:o.op= .mapUpdate ty a b c\/o.op= .insert ty a b c):fZ P B ρ s s1 w x<|execOp ev o:=by unfold qf at h;obtain⟨m,h1,h2⟩:=bu h;obtain⟨k,h3,h4⟩:=bu h2;obtain⟨v,h5,h6⟩:=bu h4;obtain⟨u,s2,h7,h8⟩:=M.aR h6;obtain⟨rfl,rfl⟩:=bK h8;obtain⟨a1,w',a2,a3,a4⟩:=Z5 (P:=P) (he a m h1) (he b k h3) (he c v h5) fi r h7;refine⟨ρ,w',.skip,by rw[a1];exact Ext.refl _ _ _,?_,rfl,a3,a4⟩;rcases ho with ho|ho<;>simp[execOp,ho,a2]
end
end Go.Rn
namespace Go.Rn
open Go.RowKit
variable {y:Operand} {ty:TypeId} {es:List<|AV×AV} {b:Nat}
section
variable {P:Program} {B:aL} {ρ:aw} {w:World} {s s1:AS} {x:AV} {YO:aK} {t:Tr AV} {ev:Operand->Value} {o:Oper}
theorem kz.born:∀{es:List<|AV×AV} {l:List MapEntry} {n:Nat},kz ρ es l n->l.map (·.born)=List.range' n es.length
 |[],l,n,h=>by have h':l=[]:=h;subst h';rfl
 |p::es,l,n,h=>by obtain⟨e,l',rfl,a,b,c,d⟩:=h;rw[List.map_cons,c,d.born,List.length_cons,List.range'_succ]
theorem kz.Vv{l:List MapEntry}(h:kz ρ es l 0):s9 l es.length:=by have hb:=h.born;refine⟨by rw[hb];exact List.nodup_range',fun e he=>?_⟩;have:e.born∈l.map (·.born):=List.mem_map_of_mem he;rw[hb,List.mem_range'_1] at this;omega
theorem Rel.aiw{h:Tr ab}(r:Rel B ρ h w){n m:Nat}{p:ab}{N:Nat}{ex:Bool}{l:Array MapEntry}{ay:Nat}(XI:n<top)(Hi:ρ n=none)(pS:m<top)(hg:h.get m=some p)(hp:p.plain=true)(cz:p.dm=false)(hm:ρ m=some (b,N))(hb:w.heap[b]? =some (.map l ay))(zY:s9 l.toList ay)(h1:ex=true->ay=es.length/\kz ρ es l.toList 0)(h2:ex=false->ll es/\vY ρ es l.toList)(h3:vY ρ es l.toList):
 Rel B (eO ρ n (w.heap.size,1)) ((h.put m<|some .ku).put n<|some<|.iter m es ex es none) {w with heap:=w.heap.push<|.mapIter (some b) ay #[] ay}:=by
 have hl:ρ.le<|eO ρ n (w.heap.size,1):=ox Hi;have sd:m≠n:=by intro e;subst e;rw[hm] at Hi;cases Hi
 have lY:h.get n=none:=by
  cases e:h.get n with
  |none=>rfl
  |some p=>obtain⟨_,_,_,h1,_⟩:=r.is n p XI e;rw[Hi] at h1;cases h1
 have g:∀k,k<top->((h.put m<|some .ku).put n<|some<|.iter m es ex es none).get k=if k=n then some (.iter m es ex es none) else if k=m then some .ku else h.get k:=by intro k hk;rw[Tr.du _ _ _ _ XI hk,Tr.du _ _ _ _ pS hk]
 have hw:∀k,k<w.heap.size->(w.heap.push<|.mapIter (some b) ay #[] ay)[k]? =w.heap[k]? :=(gV.alloc w _).block;obtain⟨_,_,_,hB⟩:=r.block pS hg hm;have size:∀k q,k<top->h.get k=some q->∀b1 N1,ρ k=some (b1,N1)->b1<w.heap.size:=by intro k q hk hq b1 N1 e;obtain⟨b2,N2,o2,e1,e2,_⟩:=r.is k q hk hq;rw[e] at e1;cases e1;exact gS e2
 have dz:∀k q,k<top->(if k=m then some ab.ku else h.get k)=some q->∃q',h.get k=some q'/\(q.dm=false->q'.dm=false):=by
  intro k q hk hq;by_cases e:k=m
  ·subst e;exact⟨p,hg,fun _=>cz⟩
  ·rw[if_neg e] at hq;exact⟨q,hq,id⟩
 refine⟨?_,?_,?_,fun k hk=>r.size k<|Nat.le_trans iH hk,?_,r.fz.of hl (fun b1 ur _=>hw b1 ur) (fun b1 ur hn j q M hj hq gX e=>by
  rw[g j hj] at hq;by_cases a:j=n
  ·subst a;rw[iN] at e;cases e;exact absurd ur (Nat.lt_irrefl _)
  ·rw[if_neg a] at hq;rw[gI ρ _ a] at e;obtain⟨q',e1,e2⟩:=dz j q hj hq;exact hn j q' M hj e1 (e2 gX) e),r.tk.of hl (fun j q hj hq xS=>by
  rw[g j hj] at hq;by_cases a:j=n
  ·rw[if_pos a] at hq;cases hq;cases xS
  ·rw[if_neg a] at hq;by_cases a2:j=m
   ·rw[if_pos a2] at hq;cases hq;cases xS
   ·rw[if_neg a2] at hq;exact hq) iH (fun b1 ur _=>hw b1 ur) (fun b1 ur hn j q M hj hq gX e=>by
  rw[g j hj] at hq;by_cases a:j=n
  ·subst a;rw[iN] at e;cases e;exact absurd ur (Nat.lt_irrefl _)
  ·rw[if_neg a] at hq;rw[gI ρ _ a] at e;obtain⟨q',e1,e2⟩:=dz j q hj hq;exact hn j q' M hj e1 (e2 gX) e) (fun j x sh _ _ e=>by rw[gI ρ _ (by have:=fY j x sh;omega)];exact e)⟩
 ·intro k q hk hq;rw[g k hk] at hq;by_cases e:k=n
  ·subst e;rw[if_pos rfl] at hq;cases hq;refine⟨w.heap.size,1,.mapIter (some b) ay #[] ay,iN _ _ _,by simp,?_,fun _=>r.size _<|Nat.le_refl _⟩;exact⟨b,N,ay, #[],hl _ _ hm,rfl⟩
  ·rw[if_neg e] at hq;by_cases e2:k=m
   ·subst e2;rw[if_pos rfl] at hq;cases hq;exact⟨b,N,_,hl _ _ hm,(hw b<|gS hb).trans hb,⟨l,ay,rfl⟩,fun _=>hB cz⟩
   ·rw[if_neg e2] at hq;obtain⟨b1,N1,o1,c1,c2,c3,c4⟩:=r.is k q hk hq;exact⟨b1,N1,o1,hl _ _ c1,(hw b1<|gS c2).trans c2,c3.mono hl,c4⟩
 ·intro k j q q' b1 N1 M1 hk hj hq dU cV e1 e2;rw[g k hk] at hq;rw[g j hj] at dU;by_cases a1:k=n
  ·by_cases a2:j=n
   ·omega
   ·rw[if_neg a2] at dU;subst a1;rw[iN] at e1;cases e1;rw[gI ρ _ a2] at e2;obtain⟨q2,Hj,XJ⟩:=dz j q' hj dU;exact absurd (size j q2 hj Hj _ _ e2)<|Nat.lt_irrefl _
  ·rw[if_neg a1] at hq;rw[gI ρ _ a1] at e1;obtain⟨q1,K3,hr1⟩:=dz k q hk hq;by_cases a2:j=n
   ·subst a2;rw[iN] at e2;cases e2;exact absurd (size k q1 hk K3 _ _ e1)<|Nat.lt_irrefl _
   ·rw[if_neg a2] at dU;rw[gI ρ _ a2] at e2;obtain⟨q2,Hj,XJ⟩:=dz j q' hj dU;exact r.one k j q1 q2 b1 N1 M1 hk hj K3 Hj (cV.imp hr1 XJ) e1 e2
 ·intro i m' hI jr left cur hi hq;rw[g i hi] at hq;by_cases e:i=n
  ·subst e;rw[if_pos rfl] at hq;cases hq;refine⟨pS,by rw[g m pS,if_neg sd,if_pos rfl],?_⟩;refine⟨w.heap.size,1,b,N,l,ay, #[],iN _ _ _,hl _ _ hm,by simp,(hw b<|gS hb).trans hb,zY,fun e=>⟨(h1 e).1,(h1 e).2.mono hl⟩,fun e=>⟨(h2 e).1,(h2 e).2.mono hl⟩,?_,rfl⟩;have:(l.toList.filter fun e=> !(#[]:Array Nat).contains e.born)=l.toList:=List.filter_eq_self.2 iH;rw[this];exact h3.mono hl
  ·rw[if_neg e] at hq;by_cases e2:i=m
   ·subst e2;rw[if_pos rfl] at hq;cases hq
   ·rw[if_neg e2] at hq;obtain⟨eg,fC,b1,N1,bm,M,l1,afa,seen,c1,c2,c3,c4,c5⟩:=r.iter i m' hI jr left cur hi hq;have d1:m'≠n:=by intro e3;subst e3;rw[lY] at fC;cases fC
    refine⟨eg,?_,oH.mono hl ⟨b1,N1,bm,M,l1,afa,seen,c1,c2,(hw b1<|gS c3).trans c3,(hw bm<|gS c4).trans c4,c5⟩⟩;rw[g m' eg,if_neg d1];by_cases d2:m'=m
    ·rw[if_pos d2]
    ·rw[if_neg d2];exact fC
 ·have new:∀i,i<top->∀zZ z6 zm zF,(if i=m then some ab.ku else h.get i)≠some (.iter m zZ z6 zm zF):=by
   intro i hi zZ z6 zm zF hq;by_cases e:i=m
   ·rw[if_pos e] at hq;cases hq
   ·rw[if_neg e] at hq;obtain⟨_,fC,_⟩:=r.iter i m _ _ _ _ hi hq;rw[hg] at fC;cases fC;simp[ab.plain] at hp
  intro i j m' zZ z6 zm zF K4 K5 J4 Kr hi hj q1 q2;rw[g i hi] at q1;rw[g j hj] at q2;by_cases e:i=n
  ·by_cases e2:j=n
   ·omega
   ·rw[if_pos e] at q1;rw[if_neg e2] at q2;cases q1;exact absurd q2<|new j hj _ _ _ _
  ·rw[if_neg e] at q1;by_cases e2:j=n
   ·rw[if_pos e2] at q2;cases q2;exact absurd q1<|new i hi _ _ _ _
   ·rw[if_neg e2] at q2;by_cases e3:i=m
    ·rw[if_pos e3] at q1;cases q1
    ·rw[if_neg e3] at q1;by_cases e4:j=m
     ·rw[if_pos e4] at q2;cases q2
     ·rw[if_neg e4] at q2;exact r.lone i j m' _ _ _ _ _ _ _ _ hi hj q1 q2
theorem ZB{m:Option Nat}{c c':Nat}{seen:Array Nat}(hb:w.heap[b]? =some (.mapIter m c seen c')):(getObj b).run P w= .ok (.mapIter m c seen c') w:=by simp[getObj,Sem.run,hb]
theorem ZC{a:AV}{va:Value}(ha:VR ρ a va)(fi:bD s)(r:Rel B ρ s.h w)(hf:dF s.nx s1.nx ρ)(h:AP P ty a s= .ok x s1):jQ P B ρ s s1 w x<|Instr.range ty va:=by
 unfold AP at h;cases e1:P.underlying ty with
 |none=>simp only[e1] at h;cases h
 |some d=>
  cases d<;>simp only[e1] at h<;>first|(cases h;done)|skip
  cases a<;>first|(cases h;done)|skip
  rename_i q;cases q with
  |none=>cases h
  |some m=>
   simp only[VR] at ha;obtain⟨b,N,hm,rfl⟩:=ha;obtain⟨ob,s2,h1,h2⟩:=M.aR h;obtain⟨hx,hg,hh,cQ⟩:=fX h1;have pS:m<top:=Nat.lt_of_lt_of_le hx fi.nx;obtain⟨o',hb,hO,hB⟩:=r.block pS hg hm;have fin:∀(es:List<|AV×AV) (ex:Bool) (l:Array MapEntry) (ay:Nat),ob.plain=true->ob.dm=false->w.heap[b]? =some (.map l ay)->s9 l.toList ay->(ex=true->ay=es.length/\kz ρ es l.toList 0)->(ex=false->ll es/\vY ρ es l.toList)->vY ρ es l.toList->
    ((bN m<|some .ku).bind fun _=>(fu<|.iter m es ex es none).bind fun n=>M.pure<|.ptr<|some (n,0)) s2= .ok x s1->jQ P B ρ s s1 w x (Instr.range ty<|.map<|some b):=by
    intro es ex l ay hp cz iI zY p1 p2 p3 h3;obtain⟨u,s3,h4,h5⟩:=M.aR h3;obtain⟨n,s4,h6,h7⟩:=M.aR h5;obtain⟨rfl,rfl⟩:=bK h7;obtain⟨_,_,_,i1,i2⟩:=kr h4;obtain⟨ht,rfl,rfl⟩:=uM h6;have e:s3.nx=s.nx:=i2.trans cQ;have jg:ρ s3.nx=none:=hf s3.nx aj (Nat.lt_succ_self _) aj;refine⟨eO ρ s3.nx (w.heap.size,1),_,.pointer<|some ⟨w.heap.size,0,none⟩,?_,?_,?_,?_,(gV.alloc w<|.mapIter (some b) ay #[] ay).below r.size⟩
    ·rw[←e];exact Ext.mT jg
    ·simp only[Instr.range,Sem.run_bind,dy e1,Result.andThen_ok,MapKept.run_getObj_map iI,Sem.run_pure,newObj,Sem.run]
    ·simp only[VR];exact⟨_,_,iN _ _ _,rfl⟩
    ·show Rel B _ (s3.h.put s3.nx<|some<|.iter m es ex es none) _;rw[i1,hh];exact r.aiw ht jg pS hg hp cz hm iI zY p1 p2 p3
   cases ob with
   |map es ay=>obtain⟨l,rfl,Dj,he⟩:=hO;exact fin es true l ay rfl rfl hb (by rw[Dj];exact he.Vv) (fun _=>⟨Dj,he⟩) (fun e=>by cases e) ⟨_,List.Perm.refl _,he.eqs⟩ h2
   |jN es=>obtain⟨l,ay,rfl,ka,zY,he⟩:=hO;exact fin es false l ay rfl rfl hb zY (fun e=>by cases e) (fun _=>⟨ka,he⟩) he h2
   |_=>cases h2
theorem Z6(he:∀x v,aI t x=some v->VR ρ v (ev x))(fi:bD s)(r:Rel B ρ s.h w)(hf:dF s.nx s1.nx ρ)(h:Bc P ty y YO t s= .ok x s1)(ho:o.op= .range ty y):fZ P B ρ s s1 w x<|execOp ev o:=by unfold Bc at h;obtain⟨a,h1,h2⟩:=bu h;have:=(ZC (P:=P) (he y a h1) fi r hf h2).op;simpa only[execOp,ho] using this
theorem find_born{e:MapEntry}:∀{l:List MapEntry},(l.map (·.born)).Nodup->e∈l->l.find? (·.born == e.born)=some e
 |[],_,h=>by cases h
 |a::l,hn,h=>by
  rw[List.map_cons,List.nodup_cons] at hn;rcases List.mem_cons.1 h with rfl|h
  ·simp
  ·have:(a.born == e.born)=false:=by rw[beq_eq_false_iff_ne];intro q;exact hn.1 (by rw[q];exact List.mem_map_of_mem h)
   rw[List.find?_cons,this];exact find_born hn.2 h
theorem Z7(he:∀x v,aI t x=some v->VR ρ v (ev x))(fi:bD s)(r:Rel B ρ s.h w)(h:Bd y YO t s= .ok x s1)(ho:o.op= .entry y):fZ P B ρ s s1 w x<|execOp ev o:=by
 unfold Bd at h;obtain⟨a,h1,h2⟩:=bu h;have ha:=he y a h1;unfold C6 at h2;split at h2
 ·rename_i n;obtain⟨ob,s2,h3,h4⟩:=M.aR h2;obtain⟨hx,hg,hh,cQ⟩:=fX h3;have ht:n<top:=Nat.lt_of_lt_of_le hx fi.nx;split at h4
  ·rename_i m es ex left k v;obtain⟨rfl,rfl⟩:=bK h4;obtain⟨_,_,b,N,bm,M,l,ay,seen,c1,c2,c3,c4,c5,_,_,_,c9⟩:=r.iter n m es ex left _ ht hg;obtain⟨e,d1,d2,d3,d4⟩:=c9;simp only[VR] at ha;obtain⟨b',N',q1,q2⟩:=ha;rw[c1] at q1;cases q1;refine⟨ρ,w,.value<|.tuple #[e.key,e.val],by rw[cQ];exact Ext.refl _ _ _,?_,?_,by rw[hh];exact r,cL.refl _ _⟩
   ·have hf:l.find? (·.born == e.born)=some e:=by rw[←Array.find?_toList];exact find_born c5.1 d1
    simp only[execOp,ho,q2,Instr.entry,Sem.run_bind,ZB c3,Result.andThen_ok,d2,MapKept.run_getObj_map c4,bne_self_eq_false,Bool.false_eq_true,if_false,hf,Sem.run_pure]
   ·simp only[VR,aA];exact⟨_,rfl,_,_,rfl,d3,_,_,rfl,d4,rfl⟩
  ·cases h4
 ·cases h2
theorem Zj(he:∀x v,aI t x=some v->VR ρ v (ev x))(fi:bD s)(r:Rel B ρ s.h w)(h:CS y YO t s= .ok x s1)(ho:o.op= .next y true):fZ P B ρ s s1 w x<|execOp ev o:=by have h':(R.bad:R AV)= .ok x s1:=h;cases h'
end
end Go.Rn
namespace Go.Rn
open Go.RowKit
variable {y:Operand} {ts:Array TypeId} {args:Array Operand}
def afb(P:Program)(l:Nat)(f:FuncId)(tmps:Array Value)(assign body:Code)(w:World)(R:Value->World->Prop):Prop:=∀(c:Frame) (cs:List Frame),∃v w',R v w'/\Steps P (lone (Frame.round l f tmps assign body .normal) (c::cs) w) (lone (c.finish v) cs w')
def jk(P:Program)(r:Result Next)(R:Value->World->Prop):Prop:=
 match r with
 | .ok (.value v) w=>R v w
 | .ok .skip w=>R undef w
 | .ok (.enter f args) w=>Calls P f args w fun e w'=>∃v,e= .returned v/\R v w'
 | .ok (.round l f tmps assign body) w=>afb P l f tmps assign body w R
 |_=>False
def j8(B:aL)(ρ:aw)(s s1:AS)(w:World)(x:AV):Value->World->Prop:=fun v w'=>∃σ,Ext s.nx s1.nx ρ σ/\VR σ x v/\Rel B σ s1.h w'/\cL B w w'
structure fP (P:Program) (B:aL) (YO:aK):Prop where
 fn:∀(f:FuncId) (args:List AV) (x:AV) (s s1:AS) (ρ:aw) (w:World) (vs:Array Value),bD s->Rel B ρ s.h w->gb ρ->dF s.nx s1.nx ρ->YO (.fn f) args s= .ok x s1->aA ρ args vs.toList->
  jk P ((callFunc f vs).run P w) (j8 B ρ s s1 w x)
 round:∀(l b N:Nat) (args:List AV) (x:AV) (s s1:AS) (ρ:aw) (w:World) (vs:Array Value),bD s->Rel B ρ s.h w->gb ρ->dF s.nx s1.nx ρ->YO (.round l) args s= .ok x s1->aA ρ args vs.toList->
  ρ l=some (b,N)->jk P ((Instr.yield b vs).run P w) (j8 B ρ s s1 w x)
 row:Be B YO
section
variable {P:Program} {B:aL} {ρ:aw} {w:World} {s s1:AS} {x:AV} {YO:aK} {t:Tr AV} {ev:Operand->Value} {o:Oper}
theorem fZ.back{c:Sem Next}(h:fZ P B ρ s s1 w x c):jk P (c.run P w)<|j8 B ρ s s1 w x:=by
 obtain⟨σ,w',nv,a,b,d,e,f⟩:=h;rw[b];cases nv<;>first|(cases d;done)|skip
 ·exact⟨σ,a,d,e,f⟩
 ·exact⟨σ,a,by rw[d];exact VR.undef σ,e,f⟩
theorem VR.TC{f:Fn}{a c:List AV}{v:Value}(h:VR ρ (.func f a c) v):Uu f=true/\∃p q,v= .func f p q/\aA ρ a p.toList/\aA ρ c q.toList:=by simpa only[VR] using h
theorem aaR(hc:fP P B YO)(he:∀x v,aI t x=some v->VR ρ v (ev x))(hg:gb ρ)(fi:bD s)(r:Rel B ρ s.h w)(hf:dF s.nx s1.nx ρ)(h:tI y args.toList YO t s= .ok x s1)(ho:o.op= .call ⟨.value y,args,ts⟩):jk P ((execOp ev o).run P w)<|j8 B ρ s s1 w x:=by
 unfold tI at h;obtain⟨l,h1,h2⟩:=bu h;obtain⟨f,h3,h4⟩:=bu h2;have hl:=FC he h1;have yh:=he y f h3;unfold mY at h4;split at h4
 ·rename_i g first captured
  obtain⟨_,p,q,e,hp,hq⟩:=yh.TC;have Pa:aA ρ (first++l++captured) (p++args.map ev++q).toList:=by rw[Array.toList_append,Array.toList_append];exact(hp.append<|by simpa using hl).append hq
  have:=hc.fn g _ x s s1 ρ w _ fi r hg hf h4 Pa;simp only[execOp,ho,resolve,Deferred.ofValue,e,Sem.run_bind,Sem.run_pure,Result.andThen_ok,invoke];exact this
 ·rename_i n;have kh:=yh;simp only[VR] at kh;obtain⟨b,N,hn,e⟩:=kh;have:=hc.round n b N _ x s s1 ρ w (args.map ev) fi r hg hf h4 (by simpa using hl) hn;simp only[execOp,ho,resolve,Deferred.ofValue,e,Sem.run_bind,Sem.run_pure,Result.andThen_ok,invoke];simpa using this
 ·cases h4
theorem ZD{name:String}(hc:fP P B YO)(he:∀x v,aI t x=some v->VR ρ v (ev x))(hg:gb ρ)(fi:bD s)(r:Rel B ρ s.h w)(hf:dF s.nx s1.nx ρ)(h:NP P y name args.toList YO t s= .ok x s1)(ho:o.op= .call ⟨.invoke y name,args,ts⟩):jk P ((execOp ev o).run P w)<|j8 B ρ s s1 w x:=by have h':(R.bad:R AV)= .ok x s1:=h;cases h'
end
end Go.Rn
namespace Go.Rn
open Go.RowKit
section
variable {P:Program} {B:aL} {ρ:aw} {w:World} {s s1:AS} {x:AV} {YO:aK} {t:Tr AV} {o:Oper}
theorem afc{a:Act}{nt:Nat}(hc:fP P B YO)(hl:∀t a,YN<|YO t a)(ht:TR ρ nt t a.tmps)(hg:gb ρ)(fi:bD s)(r:Rel B ρ s.h w)(hf:dF s.nx s1.nx ρ)(h:(dI P o.op).val YO t s= .ok x s1):
 (∀c,o.op≠ .defer c)/\jk P ((execOp a.eval o).run P w) (j8 B ρ s s1 w x):=by
 have he:∀x v,aI t x=some v->VR ρ v (a.eval x):=fun x v=>FN ht hg;cases eX:o.op
 all_goals rw[eX] at h
 case move y=>exact⟨by simp,(SK (YO:=YO) he r h<|.inl eX).back⟩
 case assign y=>exact⟨by simp,(SK (YO:=YO) he r h<|.inr eX).back⟩
 case pick c p q=>exact⟨by simp,(aaL (YO:=YO) he r h eX).back⟩
 case alloc e=>exact⟨by simp,(ZS (YO:=YO) (t:=t) r hf h eX).back⟩
 case box e y=>exact⟨by simp,(abX (YO:=YO) he r hf h eX).back⟩
 case build ty parts=>exact⟨by simp,(ZV (YO:=YO) he r h eX).back⟩
 case buildSlice ty len parts=>exact⟨by simp,(YP (YO:=YO) he r hf h eX).back⟩
 case load ty y=>exact⟨by simp,(aaM (YO:=YO) hc.row he fi r h eX).back⟩
 case store ty y z=>exact⟨by simp,(ZT (YO:=YO) he fi r h eX).back⟩
 case nilCheck y=>exact⟨by simp,(YZ (YO:=YO) he r h eX).back⟩
 case binOp op ty y z u=>exact⟨by simp,(abY (YO:=YO) he r h eX).back⟩
 case unOp op ty y=>exact⟨by simp,(adr (YO:=YO) he r h eX).back⟩
 case convert src dst y=>exact⟨by simp,(Zc (YO:=YO) he fi r h eX).back⟩
 case makeInterface ty y=>exact⟨by simp,(ajR (YO:=YO) he r h eX).back⟩
 case makeFunc fn first captured=>exact⟨by simp,(Y0 (YO:=YO) he r h eX).back⟩
 case makeMap ty y=>exact⟨by simp,(Zd (YO:=YO) he r hf h eX).back⟩
 case makeSlice ty l c=>exact⟨by simp,(YV (YO:=YO) he r hf h eX).back⟩
 case slice ty y lo hi mx=>exact⟨by simp,(Z0 (YO:=YO) he r h eX).back⟩
 case fieldAddr ty y f=>exact⟨by simp,(YT (YO:=YO) he r h eX).back⟩
 case field ty y f=>exact⟨by simp,(ZY (YO:=YO) he r h eX).back⟩
 case indexAddr ty y z=>exact⟨by simp,(YU (YO:=YO) he r h eX).back⟩
 case index ty y z=>exact⟨by simp,(ZZ (YO:=YO) he r h eX).back⟩
 case lookup ty y z ok=>exact⟨by simp,(ZA (YO:=YO) he fi r h eX).back⟩
 case mapUpdate ty m k y=>exact⟨by simp,(RU (YO:=YO) he fi r h<|.inl eX).back⟩
 case insert ty m k y=>exact⟨by simp,(RU (YO:=YO) he fi r h<|.inr eX).back⟩
 case typeAssert y xt asserted ok=>exact⟨by simp,(Zw (YO:=YO) he r h eX).back⟩
 case range ty y=>exact⟨by simp,(Z6 (YO:=YO) he fi r hf h eX).back⟩
 case entry y=>exact⟨by simp,(Z7 (YO:=YO) he fi r h eX).back⟩
 case next y Qr=>
  cases Qr with
  |true=>exact⟨by simp,(Zj (YO:=YO) he fi r h eX).back⟩
  |false=>exact absurd (show(fail:M AV) s= .ok x s1 from h) (by intro e;cases e)
 case extract y i=>exact⟨by simp,(Ze (YO:=YO) he r h eX).back⟩
 case call c=>
  obtain⟨callee,args,ts⟩:=c;cases callee with
  |builtin b=>exact⟨by simp,(Zh (YO:=YO) hc.row hl he fi r hf h eX).back⟩
  |value f=>exact⟨by simp,aaR hc he hg fi r hf h eX⟩
  |invoke recv name=>exact⟨by simp,ZD hc he hg fi r hf h eX⟩
 all_goals (exact absurd (show(fail:M AV) s= .ok x s1 from h) (by intro e;cases e))
end
end Go.Rn
