import Derived.Test.YthjiifomjmdjbaaGreatDoorRnGB
import Derived.IntWalk
import Derived.MapKept
import Derived.AtR
set_option maxRecDepth 100000
set_option maxHeartbeats 8000000
set_option linter.unusedSimpArgs false
set_option linter.unusedVariables false
namespace Go.Rn
open Go.RowKit
variable {v:Value} {ty:TypeId} {real l hh:Nat} {nX jv Eb:Option Value} {lo:Option AV} {a:AV} {b:Bool}
section
variable {P:Program} {B:aJ} {ρ:aw} {w:World} {s s1:AS} {x:AV} {Ye:aI} {t:Tr AV} {ev:Operand->Value} {o:Oper}
def pn(ρ:aw):Option AV->Option Value->Prop
 |none,v=>v=none
 |some a,v=>∃u,v=some u/\VR ρ a u
theorem Nr(he:∀x v,aG t x=some v->VR ρ v (ev x)){y:Option Operand}{a:Option AV}(h:opt (aG t) y=some a):pn ρ a<|y.map ev:=by
 cases y with
 |none=>simp only[opt] at h;injection h with h;subst h;rfl
 |some y=>
  simp only[opt] at h;cases e:aG t y with
  |none=>rw[e] at h;cases h
  |some v=>simp only[e] at h;injection h with h;subst h;exact⟨_,rfl,he y v e⟩
theorem ER{tH n d:Nat}{code:BoundsCode}(ha:VR ρ a v)(h:bound (some a) tH d=some n)(hr:tH<=real):(Instr.sliceBound v real code).run P w= .ok n w/\n<=tH:=by
 unfold bound at h;cases e:intOf a with
 |none=>simp only[e] at h;cases h
 |some i=>simp only[e] at h;obtain⟨k,_,rfl⟩:=ha.CQ e;obtain⟨rfl,hn⟩:=Aj h;have hr:(0:Int)<=(n:Int)/\(n:Int)<=(real:Int):=⟨by omega,by omega⟩;refine⟨?_,by omega⟩;simp only[Instr.sliceBound,asIntOf,Sem.run_bind,Sem.run_pure,Result.andThen_ok,if_pos hr,Int.toNat_natCast]
theorem Ht{hi:Option AV}{len low:Nat}(h1:pn ρ lo nX)(h2:pn ρ hi jv)(hr:low<=real)(e1:bound hi low len=some hh)(e2:bound lo hh 0=some l):
 (Instr.sliceBounds b len real nX jv none).run P w= .ok (l,hh,real) w/\(hi=none/\hh=len\/hh<=low)/\l<=hh:=by
 have g1:∃c,(match jv,(none:Option Value) with
  |some v,some _=>Instr.sliceBound v real .slice3B
  |some v,none=>Instr.sliceBound v real c
  |none,none=>pure len
  |none,some _=>stuck "Slice: max without high" :Sem Nat).run P w= .ok hh w/\c=(if b then BoundsCode.sliceAcap else .sliceAlen)/\(hi=none/\hh=len\/hh<=low):=by
  cases hi with
  |none=>
   simp only[pn] at h2;subst h2;simp only[bound] at e1;injection e1 with e1;subst e1
   exact⟨_,rfl,rfl,.inl ⟨rfl,rfl⟩⟩
  |some a=>obtain⟨u,rfl,hu⟩:=h2;obtain⟨a1,a2⟩:=ER (P:=P) (w:=w) (code:=if b then BoundsCode.sliceAcap else .sliceAlen) hu e1 hr;exact⟨_,a1,rfl,.inr a2⟩
 obtain⟨c,g1,rfl,g2⟩:=g1;have g3:(match nX with
  |some v=>Instr.sliceBound v hh (if(none:Option Value).isSome then BoundsCode.slice3C else .sliceB)
  |none=>pure 0:Sem Nat).run P w= .ok l w/\l<=hh:=by
  cases lo with
  |none=>
   simp only[pn] at h1;subst h1;simp only[bound] at e2;injection e2 with e2;subst e2
   exact⟨rfl,Nat.zero_le _⟩
  |some a=>obtain⟨u,rfl,hu⟩:=h1;exact ER (P:=P) (w:=w) hu e2<|Nat.le_refl _
 refine⟨?_,g2,g3.2⟩;cases jv<;>cases nX<;>simp_all [Instr.sliceBounds]
theorem Rj{len low m:Nat}{c:AV}(h1:pn ρ lo nX)(h2:pn ρ (some a) jv)(h3:pn ρ (some c) Eb)(hr:low<=real)(e0:bound (some c) low 0=some m)(e1:bound (some a) m 0=some hh)(e2:bound lo hh 0=some l):
 (Instr.sliceBounds b len real nX jv Eb).run P w= .ok (l,hh,m) w/\l<=hh/\hh<=m/\m<=low:=by
 obtain⟨u,rfl,hu⟩:=h2;obtain⟨v,rfl,hv⟩:=h3;have q0:=fun code=>ER (P:=P) (w:=w) (code:=code) hv e0 hr;have q1:=fun code=>ER (P:=P) (w:=w) (code:=code) hu e1<|Nat.le_refl _;cases lo with
 |none=>
  simp only[pn] at h1;subst h1;simp only[bound] at e2;injection e2 with e2;subst e2
  refine⟨?_,Nat.zero_le _,(q1 .slice3B).2,(q0 .slice3B).2⟩;simp[Instr.sliceBounds,(q0 _).1,(q1 _).1]
 |some y=>obtain⟨z,rfl,hz⟩:=h1;have q2:=fun code=>ER (P:=P) (w:=w) (code:=code) hz e2<|Nat.le_refl _;refine⟨?_,(q2 .slice3B).2,(q1 .slice3B).2,(q0 .slice3B).2⟩;simp[Instr.sliceBounds,(q0 _).1,(q1 _).1,(q2 _).1]
theorem Ys{e:TypeId}{lo hi mx:Option Value}(h:P.underlying ty=some (.slice e)):(Instr.sliceAt ty v lo hi mx).run P w=(Instr.slice ty v lo hi mx).run P w:=by simp[Instr.sliceAt,dx h]
theorem YX{hi mx:Option AV}(ha:VR ρ a v)(h1:pn ρ lo nX)(h2:pn ρ hi jv)(h3:pn ρ mx Eb)(h:wG P ty a lo hi mx=some x):
    ∃q,(Instr.sliceAt ty v nX jv Eb).run P w= .ok q w/\VR ρ x q:=by
  unfold wG at h
  split at h<;>first|(cases h;done)|skip
  · 
    rename_i e p len cap e1
    cases ek:eD P e with
    |none=>simp only[ek] at h;cases h
    | some k=>
      simp only[ek] at h
      rw[Ys e1]
      have hv:∃q real,v= .slice q len real/\iR len cap<=real/\len<=real\/∃q real,v= .slice q len real/\cap= .known real:=by
        cases p with
        |none=>obtain⟨rfl,rfl,rfl⟩:=md ha;exact⟨none,0,.inr ⟨none,0,rfl,rfl⟩⟩
        | some p=>
          obtain⟨n,i⟩:=p
          cases cap with
          |known c=>simp only[VR] at ha;obtain⟨b,N,_,rfl⟩:=ha;exact⟨none,0,.inr ⟨_,c,rfl,rfl⟩⟩
          |ak b0 e0=>simp only[VR] at ha;obtain⟨b,N,c,_,rfl,h5,h6,_⟩:=ha;exact⟨_,c,.inl ⟨rfl,h5,h6⟩⟩
          |lost=>simp only[VR] at ha;obtain⟨rfl,b,N,_,c,_,rfl⟩:=ha;exact⟨_,c,.inl ⟨rfl,by simp[iR],Nat.zero_le _⟩⟩
      clear hv
      cases mx with
      | some mx =>
        simp only[] at h
        have hl:cap≠ .lost:=by intro e2;subst e2;cases h
        have h':slice3 k p (iR len cap) lo hi mx=some x:=by
          cases cap<;>first|exact h|exact absurd rfl hl
        clear h
        unfold slice3 at h'
        cases e2:bound (some mx) (iR len cap) 0 with
        |none=>simp only[e2] at h';cases h'
        | some m=>
          simp only[e2] at h'
          cases hi with
          |none=>cases h'
          | some hi =>
            simp only[] at h'
            cases e3:bound (some hi) m 0 with
            |none=>simp only[e3] at h';cases h'
            | some hh=>
              simp only[e3] at h'
              cases e4:bound lo hh 0 with
              |none=>simp only[e4] at h';cases h'
              | some l=>
                simp only[e4] at h'
                cases p with
                | none=>
                  obtain⟨rfl,rfl,rfl⟩:=md ha
                  simp only[] at h';injection h' with h';subst h'
                  obtain⟨g1,g2,g3,g4⟩:=Rj (P:=P) (w:=w) (b:=true) (len:=0) (real:=0) h1 h2 h3 (Nat.le_refl _) e2 e3 e4
                  have g4':m<=0:=g4
                  refine⟨.slice none 0 0,?_,?_⟩
                  · have z1:m=0:=by omega
                    have z2:hh=0:=by omega
                    have z3:l=0:=by omega
                    subst z1;subst z2;subst z3
                    simp[Instr.slice,dx e1,g1,iP ek]
                  · have z1:hh - l=0:=by omega
                    have z2:m - l=0:=by omega
                    rw[z1,z2];simp[VR]
                | some p=>
                  obtain⟨n,i⟩:=p
                  simp only[] at h'
                  have hv:∃b N real,ρ n=some (b,N)/\v= .slice (some ⟨b,i,none⟩) len real/\iR len cap<=real:=by
                    cases cap with
                    |known c=>simp only[VR] at ha;obtain⟨b,N,e5,rfl⟩:=ha;exact⟨b,N,c,e5,rfl,by simp[iR]⟩
                    |ak b0 e0=>simp only[VR] at ha;obtain⟨b,N,c,e5,rfl,h5,h6,_⟩:=ha;exact⟨b,N,c,e5,rfl,h5⟩
                    |lost=>exact absurd rfl hl
                  obtain⟨b,N,real,e5,rfl,afR⟩:=hv
                  obtain⟨g1,g2,g3,g4⟩:=Rj (P:=P) (w:=w) (b:=true) (len:=len) h1 h2 h3 afR e2 e3 e4
                  cases e6:Nat.beq m l with
                  | true=>
                    simp only[e6] at h';injection h' with h';subst h'
                    have B0:=eg.1 e6
                    refine⟨.slice (some ⟨b,i,none⟩) (hh - l)<|m - l,?_,by simp only[VR];exact⟨b,N,e5,rfl⟩⟩
                    subst B0;simp[Instr.slice,dx e1,g1,iP ek]
                  | false=>
                    simp only[e6] at h';injection h' with h';subst h'
                    have cn:¬m=l:=by rw[←beq_eq,e6];simp
                    refine⟨.slice (some ⟨b,i+l*k,none⟩) (hh - l)<|m - l,?_,by simp only[VR];exact⟨b,N,e5,rfl⟩⟩
                    simp[Instr.slice,dx e1,g1,iP ek,cn,Addr.qT]
      | none=>
        simp only[pn] at h3;subst h3
        simp only[] at h
        cases e3:bound hi (iR len cap) len with
        |none=>simp only[e3] at h;cases h
        | some hh =>
          simp only[e3] at h
          cases e4:bound lo hh 0 with
          |none=>simp only[e4] at h;cases h
          | some l=>
            simp only[e4] at h
            cases p with
            | none=>
              obtain⟨rfl,rfl,rfl⟩:=md ha
              simp only[] at h;injection h with h;subst h
              obtain⟨g1,g2,g3⟩:=Ht (P:=P) (w:=w) (b:=true) (len:=0) (real:=0) h1 h2 (Nat.le_refl _) e3 e4
              have z1:hh=0:=by rcases g2 with⟨_,e⟩|e<;>omega
              have z2:l=0:=by omega
              subst z1;subst z2
              refine⟨.slice none 0 0,?_,by simp[VR]⟩
              simp[Instr.slice,dx e1,g1,iP ek]
            | some p=>
              obtain⟨n,i⟩:=p
              cases cap with
              | known c=>
                simp only[] at h
                simp only[VR] at ha;obtain⟨b,N,e5,rfl⟩:=ha
                obtain⟨g1,g2,g3⟩:=Ht (P:=P) (w:=w) (b:=true) (len:=len) (real:=c) h1 h2 (by simp[iR]) e3 e4
                cases e6:Nat.beq c l with
                | true=>
                  simp only[e6] at h;injection h with h;subst h
                  have B0:=eg.1 e6
                  refine⟨.slice (some ⟨b,i,none⟩) (hh - l)<|c - l,?_,by simp only[VR];exact⟨b,N,e5,rfl⟩⟩
                  subst B0;simp[Instr.slice,dx e1,g1,iP ek]
                | false=>
                  simp only[e6] at h;injection h with h;subst h
                  have cn:¬c=l:=by rw[←beq_eq,e6];simp
                  refine⟨.slice (some ⟨b,i+l*k,none⟩) (hh - l)<|c - l,?_,by simp only[VR];exact⟨b,N,e5,rfl⟩⟩
                  simp[Instr.slice,dx e1,g1,iP ek,cn,Addr.qT]
              | ak b0 e0=>
                simp only[] at h
                simp only[VR] at ha;obtain⟨b,N,c,e5,rfl,h5,h6,h7⟩:=ha
                obtain⟨g1,g2,g3⟩:=Ht (P:=P) (w:=w) (b:=true) (len:=len) (real:=c) h1 h2 h5 e3 e4
                have hhc:hh<=c:=by
                  rcases g2 with⟨_,e⟩|e
                  · omega
                  · have e':hh<=b0:=e
                    omega
                cases e6:Nat.beq l 0 with
                | true=>
                  simp only[e6] at h;injection h with h;subst h
                  have B0:=eg.1 e6
                  refine⟨.slice (some ⟨b,i,none⟩) (hh - l)<|c - 0,?_,?_⟩
                  · subst B0;by_cases q:c=0
                    · subst q;simp[Instr.slice,dx e1,g1,iP ek]
                    · simp[Instr.slice,dx e1,g1,iP ek,q,Addr.qT]
                  · simp only[VR];exact⟨b,N,c,e5,rfl,h5,by omega,h7⟩
                |false=>simp only[e6] at h;cases h
              |lost=>cases h
  · -- an array,by its address
    rename_i len e n i e1
    cases ek:eD P e with
    |none=>simp only[ek] at h;cases h
    | some k=>
      simp only[ek] at h
      cases mx with
      |some _=>cases h
      | none=>
        simp only[pn] at h3;subst h3
        simp only[] at h
        cases e2:bound hi len len with
        |none=>simp only[e2] at h;cases h
        | some hh=>
          simp only[e2] at h
          cases e3:bound lo hh 0 with
          |none=>simp only[e3] at h;cases h
          | some l=>
            simp only[e3] at h
            simp only[VR] at ha;obtain⟨b,N,e5,rfl⟩:=ha
            obtain⟨g1,g2,g3⟩:=Ht (P:=P) (w:=w) (b:=false) h1 h2 (Nat.le_refl _) e2 e3
            cases e6:Nat.beq len l with
            | true=>
              simp only[e6] at h;injection h with h;subst h
              have B0:=eg.1 e6
              refine⟨.slice (some ⟨b,i,none⟩) (hh - l)<|len - l,?_,by simp only[VR];exact⟨b,N,e5,rfl⟩⟩
              subst B0;simp[Instr.sliceAt,dx e1,Instr.sureAddr,g1,iP ek]
            | false=>
              simp only[e6] at h;injection h with h;subst h
              have cn:¬len=l:=by rw[←beq_eq,e6];simp
              refine⟨.slice (some ⟨b,i+l*k,none⟩) (hh - l)<|len - l,?_,by simp only[VR];exact⟨b,N,e5,rfl⟩⟩
              simp[Instr.sliceAt,dx e1,Instr.sureAddr,g1,iP ek,cn,Addr.qT]
theorem Zq{y:Operand}{lo hi mx:Option Operand}(he:∀x v,aG t x=some v->VR ρ v (ev x))(r:Rel B ρ s.h w)(h:sM P ty y lo hi mx Ye t s= .ok x s1)(ho:o.op= .slice ty y lo hi mx):ga P B ρ s s1 w x<|execOp ev o:=by unfold sM at h;obtain⟨a,h1,h2⟩:=bt h;obtain⟨nX,h3,h4⟩:=bt h2;obtain⟨jv,h5,h6⟩:=bt h4;obtain⟨Eb,h7,h8⟩:=bt h6;obtain⟨h9,rfl⟩:=hI h8;obtain⟨q,g1,g2⟩:=YX (P:=P) (w:=w) (he y a h1) (Nr he h3) (Nr he h5) (Nr he h7) h9;exact⟨ρ,w,.value q,Ext.refl _ _ _,by simp[execOp,ho,g1],g2,r,cH.refl _ _⟩
end
end Go.Rn
namespace Go.Rn
open Go.RowKit
variable {n:Nat} {v:Value} {ty:TypeId} {a:AV}
theorem Rel.U3{B:aJ}{ρ:aw}{h:Tr ae}{w w':World}(r:Rel B ρ h w){p:ae}{b N:Nat}(ht:n<top)(hg:h.get n=some p)(hp:p.plain=true)(cw:p.di=false)(hr:ρ n=some (b,N))(hw:wX b w w'):
 Rel B ρ (h.put n none) w'/\∀m q,m<top->(h.put n none).get m=some q->∀M,ρ m≠some (b,M):=by
 have g:∀m,m<top->(h.put n none).get m=if m=n then none else h.get m:=fun m hm=>Tr.dk _ _ _ _ ht hm
 have lO:∀m q,m<top->(h.put n none).get m=some q->∀M,ρ m≠some (b,M):=by
  intro m q hm hq M e;rw[g m hm] at hq;by_cases e2:m=n
  ·rw[if_pos e2] at hq;cases hq
  ·rw[if_neg e2] at hq;exact e2<|r.one m n q p b M N hm ht hq hg (.inr cw) e hr
 refine⟨?_,lO⟩;have hl:h.get n≠some .kB:=by intro e;rw[hg] at e;cases e;simp[ae.plain] at hp
 have r2:=r.drop ht hl;refine⟨?_,r2.one,?_,by rw[hw.size];exact r.size,r2.lone,r.fz.of (aw.le_refl _) (fun b1 _ hn=>hw.block b1 fun e=>hn n p N ht hg cw (by rw[e];exact hr)) (fun b1 _ hn=>hn.sub fun m q hm hq gW=>by
  rw[g m hm] at hq;by_cases e:m=n
  ·rw[if_pos e] at hq;cases hq
  ·rw[if_neg e] at hq;exact⟨q,hq,gW⟩),r.tk.of (aw.le_refl _) (fun m q hm hq _=>by
  rw[g m hm] at hq;by_cases e:m=n
  ·rw[if_pos e] at hq;cases hq
  ·rw[if_neg e] at hq;exact hq) (by rw[hw.size];exact Nat.le_refl _) (fun b1 _ hn=>hw.block b1 fun e=>hn n p N ht hg cw (by rw[e];exact hr)) (fun b1 _ hn=>hn.sub fun m q hm hq gW=>by
  rw[g m hm] at hq;by_cases e:m=n
  ·rw[if_pos e] at hq;cases hq
  ·rw[if_neg e] at hq;exact⟨q,hq,gW⟩) fun _ _ _ _ _ e=>e⟩
 ·intro m q hm hq;obtain⟨b1,N1,o1,h1,h2,h3,h4⟩:=r2.is m q hm hq;exact⟨b1,N1,o1,h1,(hw.block b1 fun e=>lO m q hm hq N1<|by rw[h1,e]).trans h2,h3,h4⟩
 ·intro i m es ex left cur hi hq;obtain⟨hm,fC,u⟩:=r2.iter i m es ex left cur hi hq;exact⟨hm,fC,u.mL hw.block (lO i _ hi hq)<|lO m _ hm fC⟩
section
variable {P:Program} {B:aJ} {ρ:aw} {w:World} {s s1:AS} {x:AV} {Ye:aI} {t:Tr AV} {ev:Operand->Value} {o:Oper}
theorem RD(h:n<2 ^ 63):IntKind.i64.wrap (n:Int)=n:=by exact IntWalk.i64_in _ aj
theorem Yt{l c:AV}{vl vc:Value}(hl:VR ρ l vl)(hc:VR ρ c vc)(r:Rel B ρ s.h w)(hf:dE s.nx s1.nx ρ)(h:makeSlice P ty l c s= .ok x s1):jU P B ρ s s1 w x<|Instr.makeSlice ty vl vc:=by
 unfold makeSlice at h;cases e1:P.underlying ty with
 |none=>simp only[e1] at h;cases h
 |some d=>
  cases d<;>simp only[e1] at h<;>first|(cases h;done)|skip
  rename_i e;obtain⟨il,h1,h⟩:=bt h;obtain⟨ic,h2,h⟩:=bt h;obtain⟨i,h3,h⟩:=bt h;obtain⟨nc,h4,h⟩:=bt h;obtain⟨nl,h5,h⟩:=bt h;obtain⟨z,h6,h⟩:=bt h;obtain⟨h7,h⟩:=cW h;obtain⟨n,s2,h8,h9⟩:=M.aP h;obtain⟨rfl,rfl⟩:=bD h9;obtain⟨q1,q2⟩:=and_true.1 h7;obtain⟨q3,q4⟩:=and_true.1 q2;obtain⟨q5,q6⟩:=and_true.1 q4;have q1:=aL.1 q1;have q3:=aL.1 q3;obtain⟨k1,_,rfl⟩:=hl.CQ h1;obtain⟨k2,_,rfl⟩:=hc.CQ h2;obtain⟨rfl,jK⟩:=Aj h4;obtain⟨rfl,Kq⟩:=Aj h5;unfold room at jK q1;obtain⟨vz,g1,g2⟩:=Hs (P:=P) (w:=w) ρ h6;obtain⟨ht,rfl,rfl⟩:=uB h8;have jh:ρ s.nx=none:=hf s.nx (Nat.le_refl _) (Nat.lt_succ_self _) aj;have hz:=g2.cells.length;simp only[Array.length_toList] at hz;have yQ:(Array.range<|nc*i.size).map (fun j=>(if nc*i.size=0 then(#[]:Array Value) else vz.cells)[j % (if nc*i.size=0 then(#[]:Array Value) else vz.cells).size]!)=(Array.range<|nc*i.size).map (fun j=>vz.cells[j % vz.cells.size]!):=by
   by_cases q:nc*i.size=0
   ·rw[q];simp
   ·simp only[if_neg q]
  refine⟨eN ρ s.nx (w.heap.size,nc*i.size),{w with heap:=w.heap.push<|.cells ((Array.range<|nc*i.size).map fun j=>vz.cells[j % vz.cells.size]!) e},.slice (some ⟨w.heap.size,0,none⟩) nl nc,Ext.mQ jh,?_,?_,?_,(gT.alloc w _).below r.size⟩
  ·have w1:IntKind.i64.wrap (nl:Int)=nl:=RD aj;have w2:IntKind.i64.wrap (nc:Int)=nc:=RD aj;have t1:(decide ((nc:Int)<0)||decide ((i.bytes:Int)*(nc:Int)>2 ^ 48))=false:=by
    have:¬((nc:Int)<0):=by omega
    have h2:¬((i.bytes:Int)*(nc:Int)>2 ^ 48):=by
     have:(i.bytes:Int)*(nc:Int)=((nc*i.bytes:Nat):Int):=by rw[Nat.mul_comm];simp
     rw[this];omega
    rw[decide_eq_false this,decide_eq_false h2];rfl
   have t2:¬((nl:Int)<0):=by omega
   have t3:¬((nl:Int)>(nc:Int)):=by omega
   simp only[Instr.makeSlice,Sem.run_bind,dx e1,Result.andThen_ok,asInt,asIntOf,Sem.run_pure,ux h3,w1,w2];have alW:¬(((decide ((nc:Int)<0)||decide ((i.bytes:Int)*(nc:Int)>2 ^ 48))=true)\/((nl:Int)<0)\/((nl:Int)>(nc:Int))):=by
    rw[t1];rintro (e|e|e)
    ·cases e
    ·exact t2 e
    ·exact t3 e
   have aen:((decide ((nc:Int)<0)||decide ((i.bytes:Int)*(nc:Int)>2 ^ 48))||decide ((nl:Int)<0)||decide ((nl:Int)>(nc:Int)))=false:=by rw[t1];simp[t2,t3]
   simp only[aen,Bool.false_eq_true,if_false,Sem.run_bind,run_askRoom,Result.andThen_ok,Int.toNat_natCast,iP (show eD P e=some i.size by simp[eD,h3])];by_cases q:nc*i.size=0
   ·simp only[if_pos q] at yQ ⊢;simp only[Sem.run_bind,Sem.run_pure,Result.andThen_ok,yQ];rfl
   ·simp only[if_neg q] at yQ ⊢;simp only[Sem.run_bind,g1,Sem.run_pure,Result.andThen_ok];rfl
  ·simp only[VR];exact⟨_,_,iQ _ _ _,rfl⟩
  ·refine r.new ht jh rfl ⟨_,e,rfl,by simp,Nat.le_refl _,fun j hj=>?_⟩;have afS:0<z.cells.length:=by
    rcases Nat.eq_zero_or_pos z.cells.length with h0|h0
    ·rw[h0] at q5;have:Nat.beq (nc*i.size) 0=true:=by
      cases hb:Nat.beq (nc*i.size) 0 with
      |true=>rfl
      |false=>rw[hb] at q5;simp at q5
     have:=eg.1 this;omega
    ·exact h0
   have hm:j % z.cells.length<z.cells.length:=Nat.mod_lt _ afS;obtain⟨a,ha⟩:∃a,z.cells[j % z.cells.length]? =some a:=⟨_,List.getElem?_eq_getElem hm⟩;obtain⟨v,hv,hr⟩:=g2.cells.get _ a ha;refine⟨a,v,?_,List.all_eq_true.1 q6 a<|List.mem_of_getElem? ha,?_,hr.mono<|oj jh⟩
   ·unfold cellAt;rw[Tr.get_nil];exact ha
   ·have cQ:j % vz.cells.size<vz.cells.size:=by rw[←hz];exact hm
    have iL:vz.cells[j % vz.cells.size]? =some v:=by rw[←hz];simpa using hv
    simp only[Array.getElem?_map,Array.getElem?_range,if_pos hj,Option.map_some];rw[getElem!_pos vz.cells _ cQ];rw[Array.getElem?_eq_getElem cQ] at iL;injection iL with iL;rw[iL]
theorem Yl{l c:Operand}(he:∀x v,aG t x=some v->VR ρ v (ev x))(r:Rel B ρ s.h w)(hf:dE s.nx s1.nx ρ)(h:Ak P ty l c Ye t s= .ok x s1)(ho:o.op= .makeSlice ty l c):ga P B ρ s s1 w x<|execOp ev o:=by unfold Ak at h;obtain⟨a,h1,h2⟩:=bt h;obtain⟨b,h3,h4⟩:=bt h2;have:=(Yt (P:=P) (he l a h1) (he c b h3) r hf h4).op;simpa only[execOp,ho] using this
theorem Hh{size:Nat}{l:List AV}(ha:VR ρ a v)(fi:bx s)(r:Rel B ρ s.h w)(h:firstCells size n a s= .ok l s1):
 s1.h=s.h/\s1.nx=s.nx/\∃arr:Array Value,(Builtin.firstCells size n v).run P w= .ok arr w/\ay ρ l arr.toList:=by
 cases a with
 |slice p len cap=>
  cases p with
  |none=>
   have h':(M.pure []:M<|List AV) s= .ok l s1:=by cases len<;>cases cap<;>exact h
   obtain⟨rfl,rfl⟩:=bD h';obtain⟨rfl,rfl,rfl⟩:=md ha;exact⟨rfl,rfl, #[],rfl,by simp[ay]⟩
  |some p=>
   obtain⟨m,i⟩:=p;by_cases hc:cap= .lost
   ·subst hc;simp only[VR] at ha;obtain⟨rfl,b,N,q,c,e,rfl⟩:=ha;obtain⟨h1,h2⟩:=cW (show(aF (Nat.beq n 0) <| (M.pure []:M<|List AV)) s= .ok l s1 from h);obtain⟨rfl,rfl⟩:=bD h2;have:=eg.1 h1;subst this;refine⟨rfl,rfl, #[],?_,by simp[ay]⟩;simp[Builtin.firstCells,loadCells,loadCellsFrom]
   ·rw[Lj hc] at h;have:∃b N c,ρ m=some (b,N)/\v= .slice (some ⟨b,i,none⟩) len c:=by
     cases cap with
     |known c=>simp only[VR] at ha;obtain⟨b,N,e,rfl⟩:=ha;exact⟨b,N,c,e,rfl⟩
     |ak lo e0=>simp only[VR] at ha;obtain⟨b,N,c,e,rfl,_⟩:=ha;exact⟨b,N,c,e,rfl⟩
     |lost=>exact absurd rfl hc
    obtain⟨b,N,c,e,rfl⟩:=this;obtain⟨a1,a2,a3,a4,vs,a5,a6,_⟩:=yv (P:=P) fi r h e;exact⟨a1,a2,vs.toArray,by simpa[Builtin.firstCells] using a5,by simpa using a6⟩
 |_=>cases h
theorem Se(ha:VR ρ a v)(h:lenOf a=some n):(Builtin.lenOf v).run P w= .ok n w:=by
 cases a with
 |slice p len cap=>
  simp only[lenOf] at h;injection h with h;subst h
  cases p with
  |none=>obtain⟨rfl,rfl,rfl⟩:=md ha;rfl
  |some p=>obtain⟨m,i⟩:=p;obtain⟨_,_,_,_,_,rfl⟩:=uy ha;rfl
 |_=>cases h
theorem Sf(mW:Nat):∀(k c:Nat),c<=mW->Builtin.growBy mW k c<=mW+mW+800
 |0,c,h=>by simp only[Builtin.growBy];omega
 |k+1,c,h=>by
  simp only[Builtin.growBy];by_cases q:c>=mW
  ·rw[if_pos q];omega
  ·rw[if_neg q];by_cases q2:c+(c+768) / 4<=mW
   ·exact Sf mW k _ q2
   ·have:∀k,Builtin.growBy mW k (c+(c+768) / 4)=c+(c+768) / 4:=by
     intro k;cases k with
     |zero=>rfl
     |succ k=>simp only[Builtin.growBy];rw[if_pos aj]
    rw[this];omega
theorem Zr{mW dy:Nat}(h:dy<mW):Builtin.nextslicecap mW dy<=2*mW+4096:=by
 unfold Builtin.nextslicecap;split
 ·omega
 ·split
  ·omega
  ·have:=Sf mW 4 dy aj;omega
theorem abl{elem:TypeId}{i:TypeInfo}{sv xv:Value}{base:Option Addr}{len c:Nat}{xt:Option TypeId}{args:Array TypeId}{sT:TypeId}{dy new:Array Value}{zv:Value}(hs:sv= .slice base len c)(hu:P.underlying sT=some (.slice elem))(xY:args[0]? =some sT)(ua:args[1]? =xt)(hx:oZ P xt=true)(hi:P.info? elem=some i)(hn:(Builtin.lenOf xv).run P w= .ok n w)(bJ:c<len+n)(tz:2*(len+n)*i.bytes+4096*i.bytes<=room)(hb:i.bytes≠0)(ho:(Builtin.firstCells i.size len sv).run P {w with drawn:=w.drawn+1}= .ok dy {w with drawn:=w.drawn+1})(hw:(Builtin.firstCells i.size n xv).run P {w with drawn:=w.drawn+1}= .ok new {w with drawn:=w.drawn+1})(hz:∀w':World,(zeroValue elem).run P w'= .ok zv w'):
    ∃ rest:List Value,∃nc,len+n<=nc/\rest.length=(nc - (len+n))*zv.cells.size/\(Builtin.append_ args 0 #[sv,xv]).run P w=
      .ok (.slice (some ⟨w.heap.size,0,none⟩) (len+n) nc) {w with heap:=w.heap.push<|.cells ((dy++new).toList++rest).toArray elem,drawn:=w.drawn+1}:=by
  subst hs
  have J0:=Zr bJ
  have hmul:Builtin.nextslicecap (len+n) c*i.bytes<=2 ^ 48:=by
    have:=Nat.mul_le_mul_right i.bytes J0
    have e:(2*(len+n)+4096)*i.bytes=2*(len+n)*i.bytes+4096*i.bytes:=Nat.add_mul _ _ _
    unfold room at tz
    omega
  have hnc:∃nc,len+n<=nc/\(choose<|.appendCap (len+n) c elem).run P w= .ok nc {w with drawn:=w.drawn+1}:=by
    refine⟨len+n+w.tape w.drawn (.appendCap (len+n) c elem) % (2 ^ 63 - (len+n)),by omega,?_⟩
    rw[run_choose]
    simp[Question.forced,Question.cut]
  obtain⟨nc,ahJ,Wi⟩:=hnc
  refine⟨(Builtin.zeroCells zv.cells<|nc - (len+n)).toList,nc,ahJ,by simp[Builtin.zeroCells],?_⟩
  have hle:¬(len+n<=c):=by omega
  have W5:¬(((len+n:Nat):Int)>IntKind.i64.max/\(False\/i.bytes=0)):=by
    rintro ⟨_,e|e⟩
    · cases e
    · exact hb e
  have Wj:¬(Builtin.nextslicecap (len+n) c*i.bytes>2 ^ 48):=by omega
  have eO:∀w':World,(Go.newRow elem<|dy++new++Builtin.zeroCells zv.cells (nc - (len+n))).run P w'= .ok ⟨w'.heap.size,0,none⟩ {w' with heap:=w'.heap.push<|.cells ((dy++new).toList++(Builtin.zeroCells zv.cells<|nc - (len+n)).toList).toArray elem}:=by
    intro w'
    have e:((dy++new).toList++(Builtin.zeroCells zv.cells<|nc - (len+n)).toList).toArray=dy++new++Builtin.zeroCells zv.cells (nc - (len+n)):=by
      rw[←Array.toList_append]
    rw[e];rfl
  unfold oZ at hx
  cases xt with
  | none=>
    simp only[Builtin.append_,xY,ua]
    simp only[show(#[Value.slice base len c,xv]:Array Value)[0]? =some (.slice base len c) from rfl,show(#[Value.slice base len c,xv]:Array Value)[1]? =some xv from rfl]
    simp only[Sem.run_bind,dx hu,Result.andThen_ok,iP (show eD P elem=some i.size by simp[eD,hi]),Sem.run_pure,Bool.false_eq_true,if_false,hn,if_neg hle,ux hi]
    rw[if_neg W5]
    simp only[Sem.run_bind,ux hi,Result.andThen_ok]
    rw[if_neg Wj]
    simp only[Sem.run_bind,Wi,Result.andThen_ok,ux hi,run_askRoom,ho,Bool.not_false,if_true,hw,hz,eO,Sem.run_pure]
  | some q =>
    simp only at hx
    cases e:P.underlying q with
    |none=>rw[e] at hx;cases hx
    | some d=>
      rw[e] at hx
      cases d<;>first
        |(cases hx;done)
        | (simp only[Builtin.append_,xY,ua]
           simp only[show(#[Value.slice base len c,xv]:Array Value)[0]? =some (.slice base len c) from rfl,show(#[Value.slice base len c,xv]:Array Value)[1]? =some xv from rfl]
           simp only[Sem.run_bind,dx hu,Result.andThen_ok,iP (show eD P elem=some i.size by simp[eD,hi]),Sem.run_pure,dx e,Bool.false_eq_true,if_false,hn,if_neg hle,ux hi]
           rw[if_neg W5]
           simp only[Sem.run_bind,ux hi,Result.andThen_ok]
           rw[if_neg Wj]
           simp only[Sem.run_bind,Wi,Result.andThen_ok,ux hi,run_askRoom,ho,Bool.not_false,if_true,hw,hz,eO,Sem.run_pure])
end
end Go.Rn
namespace Go.Rn
open Go.RowKit
variable {n size c:Nat} {elem sT:TypeId} {xv:Value} {xt:Option TypeId} {l:List AV} {i:TypeInfo} {base:Option Addr} {args:Array TypeId}
section
variable {P:Program} {B:aJ} {ρ:aw} {w:World} {s s1:AS} {x:AV} {Ye:aI} {t:Tr AV} {ev:Operand->Value} {o:Oper}
theorem Iu{len:Nat}{new:Array Value}{w':World}(hu:P.underlying sT=some (.slice elem))(xY:args[0]? =some sT)(ua:args[1]? =xt)(hx:oZ P xt=true)(hi:eD P elem=some size)(hn:(Builtin.lenOf xv).run P w= .ok n w)(hle:len+n<=c)(hw:(Builtin.firstCells size n xv).run P w= .ok new w)(cF:(match base with|some a=>storeCells (a.add<|len*size) new.toList|none=>pure ()).run P w= .ok () w'):
    (Builtin.append_ args 0 #[.slice base len c,xv]).run P w= .ok (.slice base (len+n) c) w':=by
  have jh:base=none->w'=w:=by
    intro e;subst e
    have ahK:Result.ok () w= .ok () w':=cF
    injection ahK with _ e;exact e.symm
  unfold oZ at hx
  cases xt with
  | none=>
    simp only[Builtin.append_,xY,ua]
    simp only[show(#[Value.slice base len c,xv]:Array Value)[0]? =some (.slice base len c) from rfl,show(#[Value.slice base len c,xv]:Array Value)[1]? =some xv from rfl]
    simp only[Sem.run_bind,dx hu,Result.andThen_ok,iP hi,Sem.run_pure,Bool.false_eq_true,if_false,hn,if_pos hle,Bool.not_false,if_true,hw]
    cases base with
    |none=>simp only[Sem.run_pure,jh rfl]
    |some a=>simp only[Sem.run_bind,show(storeCells (a.add<|len*size) new.toList).run P w= .ok () w' from cF,Result.andThen_ok,Sem.run_pure]
  | some q =>
    simp only at hx
    cases e:P.underlying q with
    |none=>rw[e] at hx;cases hx
    | some d=>
      rw[e] at hx
      cases d<;>first
        |(cases hx;done)
        | (simp only[Builtin.append_,xY,ua]
           simp only[show(#[Value.slice base len c,xv]:Array Value)[0]? =some (.slice base len c) from rfl,show(#[Value.slice base len c,xv]:Array Value)[1]? =some xv from rfl]
           simp only[Sem.run_bind,dx hu,Result.andThen_ok,iP hi,Sem.run_pure,dx e,Bool.false_eq_true,if_false,hn,if_pos hle,Bool.not_false,if_true,hw]
           cases base with
           |none=>simp only[Sem.run_pure,jh rfl]
           |some a=>simp only[Sem.run_bind,show(storeCells (a.add<|len*size) new.toList).run P w= .ok () w' from cF,Result.andThen_ok,Sem.run_pure])
theorem Yu(hi:P.info? elem=some i)(h:sw i=true):∃zv,(∀w':World,(zeroValue elem).run P w'= .ok zv w')/\zv.cells.size=i.size:=by
 unfold sw at h;cases e:i.zero with
 |none=>rw[e] at h;cases h
 |some v=>rw[e] at h;exact⟨v,fun w'=>by simp[zeroValue,ux hi,e],eg.1 h⟩
theorem Yv{off:Nat}{vs:List Value}{u:Unit}{b N:Nat}(fi:bx s)(r:Rel B ρ s.h w)(hN:off+l.length<=N)(h:wt n off l s= .ok u s1)(hn:ρ n=some (b,N))(hl:ay ρ l vs):
 s1.nx=s.nx/\∃w',(storeCells ⟨b,off,none⟩ vs).run P w= .ok () w'/\Rel B ρ s1.h w'/\cH B w w':=by
 cases l with
 |nil=>simp only[ay] at hl;subst hl;have h':M.pure () s= .ok u s1:=h;obtain⟨_,rfl⟩:=bD h';exact⟨rfl,w,rfl,r,cH.refl _ _⟩
 |cons x l=>
  unfold wt at h;obtain⟨o,s2,h1,h2⟩:=M.aP h;obtain⟨hx,hg,hh,cM⟩:=fY h1;have ht:n<top:=Nat.lt_of_lt_of_le hx fi.nx;obtain⟨o',hb,hO,hB⟩:=r.block ht hg hn;cases o with
  |cells m t z=>
   obtain⟨q1,q2⟩:=cW h2;obtain⟨q3,q4⟩:=and_true.1 q1;obtain⟨q5,q6⟩:=and_true.1 q4;obtain⟨_,_,_,e1,e2⟩:=kx q2;obtain⟨c,e,rfl,hc,hm,row⟩:=hO;have hlen:(x::l).length=vs.length:=hl.length;have h3:off<=m:=aL.1 q3;have h4:max m (off+(x::l).length)<=top:=aL.1 q5;have h5:∀y∈x::l,y.cj=true:=fun y hy=>List.all_eq_true.1 q6 y hy;have cF:=L7 (P:=P) (off:=off) (vs:=vs) hb aj<|Hj hl h5;obtain⟨g1,g2⟩:=Lv (cs:=(c.toList.take off++vs++c.toList.drop (off+vs.length)).toArray) hb;refine⟨by rw[e2,cM],_,cF,?_,g1.below<|hB rfl⟩;rw[e1,hh];refine r.put ht hg rfl rfl hn rfl g1 g2 ?_;refine⟨_,e,rfl,(size_set aj).trans hc,?_,?_⟩
   ·show max m (off+(x::l).length)<=N;omega
   ·have h6:max m (off+(x::l).length)<=c.size:=by omega
    exact Row.set (ρ:=ρ) (c:=c) (n:=m) row hl h5 h3 rfl h6 h4
  |_=>cases h2
theorem L9{sv:Value}{len:Nat}{dy new:List AV}{vo vn:Array Value}(hs:sv= .slice base len c)(hu:P.underlying sT=some (.slice elem))(xY:args[0]? =some sT)(ua:args[1]? =xt)(hx:oZ P xt=true)(hi:P.info? elem=some i)(hz:sw i=true)(hn:(Builtin.lenOf xv).run P w= .ok n w)(bJ:c<len+n)(r:Rel B ρ s.h w)(hf:dE s.nx s1.nx ρ)(gF:dy.length=len*i.size)(xZ:new.length=n*i.size)(ho:(Builtin.firstCells i.size len sv).run P {w with drawn:=w.drawn+1}= .ok vo {w with drawn:=w.drawn+1})(hw:(Builtin.firstCells i.size n xv).run P {w with drawn:=w.drawn+1}= .ok vn {w with drawn:=w.drawn+1})(W6:ay ρ dy vo.toList)(Ec:ay ρ new vn.toList)(h:grown i.size i.bytes (len+n) dy new s= .ok x s1):jU P B ρ s s1 w x<|Builtin.append_ args 0 #[sv,xv]:=by
 unfold grown at h;obtain⟨h1,h2⟩:=cW h;obtain⟨m,s2,h3,h4⟩:=M.aP h2;obtain⟨rfl,rfl⟩:=bD h4;obtain⟨h5,h6⟩:=and_true.1 h1;have tz:=aL.1 h5;have hb:i.bytes≠0:=by intro e;rw[e] at h6;simp at h6
 obtain⟨zv,hz1,hz2⟩:=Yu (P:=P) hi hz;obtain⟨rest,nc,g1,g2,g3⟩:=abl (P:=P) (w:=w) hs hu xY ua hx hi hn bJ tz hb ho hw hz1;have r1:Rel B ρ s.h {w with drawn:=w.drawn+1}:=r.DO<|gT.drew w;obtain⟨rfl,k1,σ,k2,k3,k4,k5⟩:=LG (P:=P) elem rest r1 hf h3<|W6.append Ec;have e:vo.toList++vn.toList++rest=(vo++vn).toList++rest:=by simp
 refine⟨σ,_,_,k2,g3,?_,?_,(gT.trans (gT.drew w)<|gT.alloc _ _).below r.size⟩
 ·simp only[VR];refine⟨_,_,nc,k3,rfl,g1,g1,?_⟩;have e1:=W6.length;have e2:=Ec.length;simp only[List.length_append];rw[←e1, ←e2,gF,xZ,g2,hz2,Nat.zero_add, ←Nat.add_mul, ←Nat.add_mul];exact Nat.le_of_eq (by congr 1;omega)
 ·rw[e] at k5;exact k5
theorem ajg{len:Nat}{base:Option<|Nat×Nat}{cap:cL}{v:Value}(fi:bx s)(r:Rel B ρ s.h w)(ha:VR ρ (.slice base len cap) v)(hc:cap≠ .lost)(h:firstCells size len (.slice base len cap) s= .ok l s1):l.length=len*size:=by
 cases base with
 |none=>obtain⟨rfl,rfl,rfl⟩:=md ha;obtain⟨rfl,rfl⟩:=bD (show(M.pure []:M<|List AV) s= .ok l s1 from h);simp
 |some p=>obtain⟨m,i⟩:=p;rw[Lj hc] at h;obtain⟨b,N,q,k,hn,rfl⟩:=uy ha;exact(yv (P:=(default:Program)) fi r h hn).2.2.1
end
end Go.Rn
namespace Go.Rn
open Go.RowKit
variable {α:Type} {vb va:Value} {v:α} {ts:Array TypeId} {size n:Nat} {s2:AS} {a:AV}
theorem Yd.cJ{m:M α}(hm:Yd m){s s1:AS}(fi:bx s)(h:m s= .ok v s1):bx s1:=by obtain⟨dr,dw,d,_⟩:=hm s v s1 fi h;exact d.cJ fi
theorem Yd.le{m:M α}(hm:Yd m){s s1:AS}(fi:bx s)(h:m s= .ok v s1):s.nx<=s1.nx:=by obtain⟨dr,dw,d,_⟩:=hm s v s1 fi h;exact d.nx
section
variable {P:Program} {B:aJ} {ρ:aw} {w:World} {s s1:AS} {x:AV} {Ye:aI} {t:Tr AV} {ev:Operand->Value} {o:Oper}
theorem jU.nx{c:Sem Value}(h:jU P B ρ s2 s1 w x c)(e:s2.nx=s.nx):jU P B ρ s s1 w x c:=by unfold jU at h ⊢;rw[e] at h;exact h
theorem Rk{elem sT:TypeId}{len c m b N:Nat}{xv:Value}{xt:Option TypeId}{args:Array TypeId}{dy new:List AV}{vn:Array Value}{p:ae}{bytes:Nat}{vo:List Value}(hu:P.underlying sT=some (.slice elem))(xY:args[0]? =some sT)(ua:args[1]? =xt)(hx:oZ P xt=true)(hi:eD P elem=some size)(hn:(Builtin.lenOf xv).run P w= .ok n w)(hle:len+n<=c)(r:Rel B ρ s.h w)(ht:m<top)(hg:s.h.get m=some p)(hp:p.yC=true)(hm:ρ m=some (b,N))(hc:c*size<=N)(hf:dE s.nx s1.nx ρ)(gF:dy.length=len*size)(xZ:new.length=n*size)(jw:s2.h=s.h.put m none)(PR:s2.nx=s.nx)(hw:(Builtin.firstCells size n xv).run P w= .ok vn w)(hold:∀j v,vo[j]? =some v->w.cell? ⟨b,0+j,none⟩=some v)(ho:ay ρ dy vo)(Ec:ay ρ new vn.toList)(h:grown size bytes (len+n) dy new s2= .ok x s1):jU P B ρ s s1 w x<|Builtin.append_ args 0 #[.slice (some ⟨b,0,none⟩) len c,xv]:=by
 obtain⟨o',hb,hO,hB⟩:=r.block ht hg hm;cases p with
 |cells k tr z=>
  obtain⟨c0,e0,rfl,iM,hk,row⟩:=hO;unfold grown at h;obtain⟨_,h2⟩:=cW h;obtain⟨q,s3,h3,h4⟩:=M.aP h2;obtain⟨rfl,rfl⟩:=bD h4;unfold newRow at h3;obtain⟨q1,q2⟩:=cW h3;obtain⟨q3,q4⟩:=and_true.1 q1;obtain⟨Ed,rfl,rfl⟩:=uB q2;have vx:∀y∈dy++new,y.cj=true:=fun y hy=>List.all_eq_true.1 q4 y hy;have hlen:(dy++new).length<=top:=aL.1 q3;have hvl:=Ec.length;have W7:=ho.length;have hmul:len*size+n*size<=c*size:=by rw[←Nat.add_mul];exact Nat.mul_le_mul_right _ hle
  have J1:len*size+vn.toList.length<=c0.size:=by omega
  have cF:=L7 (P:=P) (off:=len*size) (vs:=vn.toList) hb J1<|Hj Ec fun y hy=>vx y<|List.mem_append_right _ hy;obtain⟨g1,g2⟩:=Lv (cs:=(c0.toList.take (len*size)++vn.toList++c0.toList.drop (len*size+vn.toList.length)).toArray) hb;have xG:=Iu (P:=P) (w:=w) (base:=some ⟨b,0,none⟩) hu xY ua hx hi hn hle hw (by show(storeCells ((Addr.mk b 0 none).add<|len*size) vn.toList).run P w=_;rw[Addr.qT,Nat.zero_add];exact cF);obtain⟨d1,d2⟩:=r.U3 ht hg rfl rfl hm g1;have jh:ρ s2.nx=none:=hf s2.nx aj (Nat.lt_succ_self _) aj;refine⟨eN ρ s2.nx (b,N),_,_,?_,xG,?_,?_,g1.below<|hB rfl⟩
  ·rw[←PR];exact Ext.mQ jh
  ·simp only[VR];exact⟨b,N,c,iQ _ _ _,rfl,hle,hle,by omega⟩
  ·show Rel B _ (s2.h.put s2.nx<|some<|.cells (dy++new).length (Tr.fill (dy++new) 0 .nil) []) _;rw[jw];refine d1.name Ed jh rfl g2 (fun _=>hB rfl) (fun k' sh=>by
    cases e:ρ (Rn.hn k' b sh) with
    |none=>rfl
    |some x=>obtain⟨_,_,_,_,_,_,_,q3,_⟩:=r.fz k' b sh (by rw[e];exact fun h=>by cases h);exact absurd hm<|q3 m _ N ht hg rfl) d2 ?_ (r.tk.of (oj jh) (fun j q hj hq xH=>by
    rw[Tr.dk _ _ _ _ Ed hj] at hq;by_cases e:j=s2.nx
    ·rw[if_pos e] at hq;cases hq;cases xH
    ·rw[if_neg e,Tr.dk _ _ _ _ ht hj] at hq;by_cases e2:j=m
     ·rw[if_pos e2] at hq;cases hq
     ·rw[if_neg e2] at hq;exact hq) (by rw[g1.size];exact Nat.le_refl _) (fun b1 _ hn=>g1.block b1 fun e=>hn m _ N ht hg rfl (by rw[e];exact hm)) (fun b1 _ hn j q M hj hq gW e2=>by
    rw[Tr.dk _ _ _ _ Ed hj] at hq;by_cases e:j=s2.nx
    ·subst e;rw[iQ] at e2;cases e2;exact hn m _ N ht hg rfl hm
    ·rw[if_neg e,Tr.dk _ _ _ _ ht hj] at hq;rw[gJ ρ _ e] at e2;by_cases e3:j=m
     ·rw[if_pos e3] at hq;cases hq
     ·rw[if_neg e3] at hq;exact hn j q M hj hq gW e2) (fun j x sh _ _ e=>by rw[gJ ρ _ (by have:=fZ j x sh;omega)];exact e))
   refine⟨_,e0,rfl,?_,?_,fun i hi=>?_⟩
   ·exact(size_set J1).trans iM
   ·simp only[List.length_append];omega
   ·simp only[List.length_append] at hi;obtain⟨a,ha⟩:∃a,(dy++new)[i]? =some a:=⟨(dy++new)[i]'(by simp;exact hi),List.getElem?_eq_getElem _⟩;have mI:=yw (l:=dy++new) (i:=i) hlen (by simp;exact hi);obtain⟨v,hv,hr⟩:=(ho.append Ec).get i a ha;refine⟨a,v,by rw[mI];exact ha,vx a<|List.mem_of_getElem? ha,?_,hr.mono<|oj jh⟩;simp only[List.getElem?_toArray];by_cases q:i<len*size
    ·rw[List.getElem?_append_left aj] at hv;have:=hold i v hv;simp only[World.cell?,hb,Nat.zero_add] at this;rw[List.append_assoc,List.getElem?_append_left vJ,List.getElem?_take_of_lt q];simpa using this
    ·rw[List.getElem?_append_right aj] at hv;have hvi:i - vo.length<vn.toList.length:=(List.getElem?_eq_some_iff.1 hv).1;rw[List.append_assoc,List.getElem?_append_right vJ];simp only[List.length_take,Array.length_toList];rw[Nat.min_eq_left aj,List.getElem?_append_left aj];rw[show i - len*size=i - vo.length from by omega];exact hv
 |_=>cases hp
theorem YF{b:AV}(ha:VR ρ a va)(hb:VR ρ b vb)(fi:bx s)(r:Rel B ρ s.h w)(hf:dE s.nx s1.nx ρ)(h:oX P ts a b s= .ok x s1):
 jU P B ρ s s1 w x (Builtin.append_ ts 0 #[va,vb]):=by
 unfold oX at h;obtain⟨sT,h1,h⟩:=bt h;cases e1:P.underlying sT with
 |none=>simp only[e1] at h;cases h
 |some d=>
  cases d<;>simp only[e1] at h<;>first|(cases h;done)|skip
  rename_i elem;cases a<;>simp only at h<;>first|(cases h;done)|skip
  rename_i base len cap _;obtain⟨i,h2,h⟩:=bt h;obtain⟨h3,h⟩:=cW h;obtain⟨hz,hx⟩:=and_true.1 h3;obtain⟨n,h4,h⟩:=bt h;obtain⟨new,s2,h5,h⟩:=M.aP h;obtain⟨h6,h⟩:=cW h;have xZ:=eg.1 h6;have hi:eD P elem=some i.size:=by simp[eD,h2]
  obtain⟨k1,k2,vn,k3,k4⟩:=Hh (P:=P) hb fi r h5;have rd:Rel B ρ s.h {w with drawn:=w.drawn+1}:=r.DO<|gT.drew w;obtain⟨_,_,vn',Kr,Ks⟩:=Hh (P:=P) hb fi rd h5;have hn:=Se (P:=P) (w:=w) hb h4;have eF:bx s2:=(Yd.firstCells _ _ _).cJ fi h5;have r2:Rel B ρ s2.h w:=by rw[k1];exact r
  have zM:Rel B ρ s2.h {w with drawn:=w.drawn+1}:=by rw[k1];exact rd
  unfold qR at h;cases cap with
  |lost=>cases h
  |known c=>
   simp only at h;cases q:Nat.ble (len+n) c with
   |true=>
    simp only[q] at h;have hle:=aL.1 q;obtain⟨u,s3,h7,h8⟩:=M.aP h;obtain⟨rfl,rfl⟩:=bD h8;cases base with
    |none=>
     obtain⟨rfl,rfl⟩:=bD h7;obtain⟨rfl,hc,rfl⟩:=md ha;cases hc;have oM:n=0:=by omega
     subst oM;refine⟨ρ,w,_,by rw[k2];exact Ext.refl _ _ _,Iu (P:=P) (w:=w) (base:=none) e1 h1 rfl hx hi hn hle k3 rfl,?_,r2,cH.refl _ _⟩;simp[VR]
    |some p=>obtain⟨m,j⟩:=p;have vO:=ha;simp only[VR] at vO;obtain⟨bb,N,hm,rfl⟩:=vO;obtain⟨g1,w',g2,g3,g4⟩:=Ll (P:=P) eF r2 h7 hm k4;refine⟨ρ,w',_,by rw[g1,k2];exact Ext.refl _ _ _,Iu (P:=P) (w:=w) (base:=some ⟨bb,j,none⟩) e1 h1 rfl hx hi hn hle k3 (by show(storeCells ((Addr.mk bb j none).add<|len*i.size) vn.toList).run P w=_;rw[Addr.qT];exact g2),?_,g3,g4⟩;simp only[VR];exact⟨bb,N,hm,rfl⟩
   |false=>
    simp only[q] at h;have bJ:c<len+n:=by
     rcases Nat.lt_or_ge c (len+n) with e|e
     ·exact e
     ·rw[aL.2 e] at q;cases q
    obtain⟨dy,s3,h7,h8⟩:=M.aP h;obtain⟨j1,j2,vo,j3,j4⟩:=Hh (P:=P) ha eF zM h7;have W7:=ajg eF r2 ha (by intro e;cases e) h7;have:∃VC:Option Addr,va= .slice VC len c:=by
     cases base with
     |none=>obtain⟨rfl,hc,rfl⟩:=md ha;cases hc;exact⟨_,rfl⟩
     |some p=>obtain⟨m,j⟩:=p;simp only[VR] at ha;obtain⟨_,_,_,rfl⟩:=ha;exact⟨_,rfl⟩
    obtain⟨VC,hva⟩:=this;refine jU.nx (s2:=s3) (L9 (P:=P) hva e1 h1 rfl hx h2 hz hn bJ (by rw[j1];exact r2) (by rw[j2,k2];exact hf) W7 xZ j3 Kr j4 Ks h8) (by rw[j2,k2])
  |ak lo sz=>
   obtain⟨h7,h⟩:=cW h;have:=eg.1 h7;subst this;cases q:Nat.ble (len+n) lo with
   |true=>
    simp only[q] at h;have hle:=aL.1 q;cases base with
    |none=>cases h
    |some p=>
     obtain⟨m,j⟩:=p;simp only at h;obtain⟨u,s3,h8,h9⟩:=M.aP h;obtain⟨rfl,rfl⟩:=bD h9;have vO:=ha;simp only[VR] at vO;obtain⟨bb,N,c,hm,rfl,gF,Ku,hN⟩:=vO;have J1:j+len*i.size+new.length<=N:=by have:(len+n)*i.size<=c*i.size:=Nat.mul_le_mul_right _ aj;rw[Nat.add_mul] at this;omega
     obtain⟨g1,w',g2,g3,g4⟩:=Yv (P:=P) eF r2 J1 h8 hm k4;refine⟨ρ,w',_,by rw[g1,k2];exact Ext.refl _ _ _,Iu (P:=P) (w:=w) (base:=some ⟨bb,j,none⟩) e1 h1 rfl hx hi hn aj k3 (by show(storeCells ((Addr.mk bb j none).add<|len*i.size) vn.toList).run P w=_;rw[Addr.qT];exact g2),?_,g3,g4⟩;simp only[VR];exact⟨bb,N,c,hm,rfl,gF,by omega,hN⟩
   |false=>
    simp only[q] at h;cases base with
    |none=>cases h
    |some p=>
     obtain⟨m,j⟩:=p;cases j with
     |succ j=>cases h
     |zero=>
      simp only at h;obtain⟨dy,s3,h8,h⟩:=M.aP h;obtain⟨ob,s4,h9,h⟩:=M.aP h;obtain⟨gE,h⟩:=cW h;obtain⟨u,s5,ud,pH⟩:=M.aP h;have vO:=ha;simp only[VR] at vO;obtain⟨bb,N,c,hm,rfl,gF,Ku,hN⟩:=vO;obtain⟨j1,j2,j3,j4,vo,j5,j6,j7⟩:=yv (P:=P) eF r2 h8 hm;obtain⟨_,_,_,_,vo',PS,PT,_⟩:=yv (P:=P) eF zM h8 hm;obtain⟨i1,i2,i3,i4⟩:=fY h9;obtain⟨i5,i6,i7,i8,i9⟩:=kx ud;have hh:s4.h=s2.h:=i3.trans j1;have cM:s4.nx=s.nx:=(i4.trans j2).trans k2;by_cases hq:len+n<=c
      ·refine jU.nx (s2:=s2) ?_ k2;refine Rk (P:=P) (s:=s2) (s2:=s5) (p:=ob) (vo:=vo) e1 h1 rfl hx hi hn hq r2 i6 (by rw[←j1];exact i2) gE hm aj (by rw[k2];exact hf) j3 xZ (by rw[i8,hh]) (by rw[i9,cM,k2]) k3 j7 j6 k4 pH
      ·have PU:s4.h.get m≠some .kB:=by intro e;rw[i3,i2] at e;injection e with e;subst e;cases gE
       refine jU.nx (s2:=s5) (L9 (P:=P) rfl e1 h1 rfl hx h2 hz hn aj (by rw[i8];exact Rel.drop (by rw[hh];exact r2) i6 PU) (by rw[i9,cM];exact hf) j3 xZ (by simpa[Builtin.firstCells] using PS) Kr (by simpa using PT) Ks pH) (by rw[i9,cM])
theorem Q4{o k:Nat}{v:Value}{l:List AV}{Ye:aI}(eO:A7 B Ye)(ht:top<=n)(hb:VR ρ (.U n o k) v)(fi:bx s)(r:Rel B ρ s.h w)(h:sB Ye n o (k*size) s= .ok l s1):
 s1.h=s.h/\s1.nx=s.nx/\l.length=k*size/\(Builtin.lenOf v).run P w= .ok k w/\∃arr:Array Value,(Builtin.firstCells size k v).run P w= .ok arr w/\ay ρ l arr.toList:=by
 rcases Nat.eq_zero_or_pos (k*size) with hk|hk
 ·rw[show sB Ye n o (k*size)=M.pure [] from by rw[hk];rfl] at h;obtain⟨rfl,rfl⟩:=bD h;refine⟨rfl,rfl,hk.symm,?_⟩;simp only[VR] at hb;rcases hb with⟨_,rfl,a0,c,rfl,_⟩|⟨b,sh,c,e,rfl,_⟩
  ·refine⟨rfl, #[],?_,by simp[ay]⟩;cases a0<;>simp[Builtin.firstCells,loadCells,loadCellsFrom]
  ·refine⟨rfl, #[],?_,by simp[ay]⟩;simp[Builtin.firstCells,loadCells,loadCellsFrom,hk]
 rw[show sB Ye n o (k*size)=(Ye (.row n o<|k*size) []).bind fun x=>match x with
  | .agg l=>aF (Nat.beq l.length<|k*size) <| M.pure l
  |_=>fail from by obtain⟨m,hm⟩:∃m,k*size=m+1:=⟨k*size - 1,by omega⟩;rw[hm];rfl] at h
 obtain⟨x,s2,h1,h2⟩:=M.aP h;split at h2<;>first|(cases h2;done)|skip
 rename_i l';obtain⟨h3,h4⟩:=cW h2;obtain⟨rfl,rfl⟩:=bD h4;obtain⟨a1,a2,a3⟩:=eO _ _ _ _ _ _ _ _ fi r h1;have hlen:=eg.1 h3;refine⟨a1,a2,hlen,?_⟩;simp only[VR] at hb;rcases hb with⟨_,rfl,a0,c,rfl,hz⟩|⟨b,sh,c,e,rfl,_⟩
 ·have:l=[]:=List.eq_nil_of_length_eq_zero (by rw[hlen,Nat.zero_mul]);subst this;refine⟨rfl, #[],?_,by simp[ay]⟩;cases a0<;>simp[Builtin.firstCells,loadCells,loadCellsFrom]
 ·obtain⟨l2,vs,e2,e3,e4,c',et,fr,e5,e6⟩:=a3 b sh<|e.high ht;injection e2 with e2
  subst e2;have FV:=HV (P:=P) (w:=w) e5 e6;rw[e3] at FV;exact⟨rfl,vs.toArray,by simpa[Builtin.firstCells] using FV,by simpa using e4⟩
theorem YY{n0 o0 k0:Nat}{Ye:aI}(eO:A7 B Ye)(hl:∀t a,Yd<|Ye t a)(ha:VR ρ a va)(hb:VR ρ (.U n0 o0 k0) vb)(fi:bx s)(r:Rel B ρ s.h w)(hf:dE s.nx s1.nx ρ)(h:AJ P Ye ts a n0 o0 k0 s= .ok x s1):
 jU P B ρ s s1 w x (Builtin.append_ ts 0 #[va,vb]):=by
 unfold AJ at h;obtain⟨dM,h⟩:=cW h;have dM:=aL.1 dM;obtain⟨sT,h1,h⟩:=bt h;cases e1:P.underlying sT with
 |none=>simp only[e1] at h;cases h
 |some d=>
  cases d<;>simp only[e1] at h<;>first|(cases h;done)|skip
  rename_i elem;obtain⟨m,len,cap,rfl⟩:∃m len cap,a= .slice (some (m,0)) len cap:=by
   cases a with
   |slice base len cap=>
    cases base with
    |none=>cases h
    |some p=>
     obtain⟨m,j⟩:=p;cases j with
     |succ j=>cases h
     |zero=>exact⟨m,len,cap,rfl⟩
   |_=>cases h
  obtain⟨i,h2,h⟩:=bt h;obtain⟨h3,h⟩:=cW h;obtain⟨hz,hx⟩:=and_true.1 h3;obtain⟨dz,h⟩:=cW h;obtain⟨new,s2,h5,h⟩:=M.aP h;have hi:eD P elem=some i.size:=by simp[eD,h2]
  obtain⟨k1,k2,xZ,hn,vn,k3,k4⟩:=Q4 (P:=P) eO dM hb fi r h5;have rd:Rel B ρ s.h {w with drawn:=w.drawn+1}:=r.DO<|gT.drew w;obtain⟨_,_,_,_,vn',Kr,Ks⟩:=Q4 (P:=P) eO dM hb fi rd h5;have eF:bx s2:=(Yd.sB hl _ _ _).cJ fi h5;have r2:Rel B ρ s2.h w:=by rw[k1];exact r
  have zM:Rel B ρ s2.h {w with drawn:=w.drawn+1}:=by rw[k1];exact rd
  have vO:∃bb N c,ρ m=some (bb,N)/\va= .slice (some ⟨bb,0,none⟩) len c/\len<=c/\0+c*i.size<=N:=by
   cases cap with
   |lost=>cases dz
   |known c=>obtain⟨q1,q2⟩:=and_true.1 dz;have q1:=eg.1 q1;have q2:=eg.1 q2;subst q1;subst q2;simp only[VR] at ha;obtain⟨bb,N,e,hv⟩:=ha;exact⟨bb,N,0,e,hv,Nat.le_refl _,by omega⟩
   |ak lo sz=>have:=eg.1 dz;subst this;simp only[VR] at ha;obtain⟨bb,N,c,hm,hv,_,Ku,hN⟩:=ha;exact⟨bb,N,c,hm,hv,Ku,hN⟩
  obtain⟨bb,N,c,hm,rfl,Ku,hN⟩:=vO;obtain⟨dy,s3,h8,h⟩:=M.aP h;obtain⟨ob,s4,h9,h⟩:=M.aP h;obtain⟨gE,h⟩:=cW h;obtain⟨u,s5,ud,pH⟩:=M.aP h;obtain⟨j1,j2,j3,j4,vo,j5,j6,j7⟩:=yv (P:=P) eF r2 h8 hm;obtain⟨_,_,_,_,vo',PS,PT,_⟩:=yv (P:=P) eF zM h8 hm;obtain⟨i1,i2,i3,i4⟩:=fY h9;obtain⟨i5,i6,i7,i8,i9⟩:=kx ud;have hh:s4.h=s2.h:=i3.trans j1;have cM:s4.nx=s.nx:=(i4.trans j2).trans k2;by_cases hq:len+k0<=c
  ·refine jU.nx (s2:=s2) ?_ k2;refine Rk (P:=P) (s:=s2) (s2:=s5) (p:=ob) (vo:=vo) e1 h1 rfl hx hi hn hq r2 i6 (by rw[←j1];exact i2) gE hm aj (by rw[k2];exact hf) j3 xZ (by rw[i8,hh]) (by rw[i9,cM,k2]) k3 j7 j6 k4 pH
  ·have PU:s4.h.get m≠some .kB:=by intro e;rw[i3,i2] at e;injection e with e;subst e;cases gE
   refine jU.nx (s2:=s5) (L9 (P:=P) rfl e1 h1 rfl hx h2 hz hn aj (by rw[i8];exact Rel.drop (by rw[hh];exact r2) i6 PU) (by rw[i9,cM];exact hf) j3 xZ (by simpa[Builtin.firstCells] using PS) Kr (by simpa using PT) Ks pH) (by rw[i9,cM])
end
end Go.Rn
namespace Go.Rn
open Go.RowKit
variable {ts:Array TypeId} {vs:Array Value} {va:Value} {ty:TypeId} {consts:Array Bool} {b:Builtin} {a:AV}
section
variable {P:Program} {B:aJ} {ρ:aw} {w:World} {s s1:AS} {x:AV} {Ye:aI} {t:Tr AV} {ev:Operand->Value} {o:Oper}
theorem Zs{b:AV}{vb:Value}(ha:VR ρ a va)(hb:VR ρ b vb)(fi:bx s)(r:Rel B ρ s.h w)(h:yN P ts a b s= .ok x s1):
 jU P B ρ s s1 w x (Builtin.copy_ ts 0 #[va,vb]):=by
 unfold yN at h;obtain⟨sT,h1,h⟩:=bt h;cases e1:P.underlying sT with
 |none=>simp only[e1] at h;cases h
 |some d=>
  cases d<;>simp only[e1] at h<;>first|(cases h;done)|skip
  rename_i elem;cases a<;>simp only at h<;>first|(cases h;done)|skip
  rename_i base len cap _;obtain⟨k,h2,h⟩:=bt h;obtain⟨n,h3,h⟩:=bt h;obtain⟨h4,h⟩:=cW h;obtain⟨cells,s2,h5,h⟩:=M.aP h;obtain⟨u,s3,h6,h7⟩:=M.aP h;obtain⟨rfl,rfl⟩:=bD h7;have hn:=Se (P:=P) (w:=w) hb h3;obtain⟨k1,k2,vn,k3,k4⟩:=Hh (P:=P) hb fi r h5;have eF:bx s2:=(Yd.firstCells _ _ _).cJ fi h5;have r2:Rel B ρ s2.h w:=by rw[k1];exact r
  cases base with
  |none=>obtain⟨_,rfl⟩:=bD h6;obtain⟨rfl,hc,rfl⟩:=md ha;refine⟨ρ,w,.int .i64 (Nat.min n 0:Nat),by rw[k2];exact Ext.refl _ _ _,?_,by simp only[VR],r2,cH.refl _ _⟩;simp only[Builtin.copy_,h1,show(#[Value.slice none 0 0,vb]:Array Value)[0]? =some (.slice none 0 0) from rfl,show(#[Value.slice none 0 0,vb]:Array Value)[1]? =some vb from rfl,Sem.run_bind,dx e1,Result.andThen_ok,hn,iP h2,k3,Sem.run_pure,goInt]
  |some p=>
   obtain⟨m,i⟩:=p;have hq:∃bb N c,ρ m=some (bb,N)/\va= .slice (some ⟨bb,i,none⟩) len c:=by
    cases cap with
    |known c=>simp only[VR] at ha;obtain⟨bb,N,e,rfl⟩:=ha;exact⟨bb,N,c,e,rfl⟩
    |ak lo e0=>simp only[VR] at ha;obtain⟨bb,N,c,e,rfl,_⟩:=ha;exact⟨bb,N,c,e,rfl⟩
    |lost=>cases h4
   obtain⟨bb,N,c,hm,rfl⟩:=hq;obtain⟨g1,w',g2,g3,g4⟩:=Ll (P:=P) eF r2 h6 hm k4;refine⟨ρ,w',.int .i64 (Nat.min n len:Nat),by rw[g1,k2];exact Ext.refl _ _ _,?_,by simp only[VR],g3,g4⟩;simp only[Builtin.copy_,h1,show(#[Value.slice (some ⟨bb,i,none⟩) len c,vb]:Array Value)[0]? =some (.slice (some ⟨bb,i,none⟩) len c) from rfl,show(#[Value.slice (some ⟨bb,i,none⟩) len c,vb]:Array Value)[1]? =some vb from rfl,Sem.run_bind,dx e1,Result.andThen_ok,hn,iP h2,k3,Sem.run_pure,goInt,g2]
theorem dT.length:∀{x:List<|AV×AV} {l:List MapEntry},dT ρ x l->x.length=l.length
 |[],l,k=>by have k':l=[]:=k;subst k';rfl
 |_::_,_,k=>by obtain⟨e,es,rfl,_,_,d⟩:=k;simp[dT.length d]
theorem abm(ha:VR ρ a va)(fi:bx s)(r:Rel B ρ s.h w)(h:zt P ts a s= .ok x s1):
    jU P B ρ s s1 w x (Builtin.len_ ts 0 #[va]):=by
  unfold zt at h
  have h9:=M.aP h
  clear h
  obtain⟨sT,s0,h0,h⟩:=h9
  obtain⟨h1,Kv⟩:=hI h0
  clear h0
  subst Kv
  have W8:(#[va]:Array Value)[0]? =some va:=rfl
  cases e1:P.underlying sT with
  |none=>simp only[e1] at h;cases h
  | some d=>
    have fin:∀n:Nat,(Builtin.len_ ts 0 #[va]).run P w= .ok (goInt n) w->x= .int .i64 n->s1.h=s0.h->s1.nx=s0.nx->jU P B ρ s0 s1 w x (Builtin.len_ ts 0 #[va]):=by
      intro n hr hx hh cM
      subst hx
      exact⟨ρ,w,_,by rw[cM];exact Ext.refl _ _ _,hr,by simp only[VR,goInt],by rw[hh];exact r,cH.refl _ _⟩
    cases d<;>simp only[e1] at h<;>first|(cases h;done)|skip
    case slice e=>
      cases a<;>first|(cases h;done)|skip
      case slice base len cap=>
        obtain⟨rfl,rfl⟩:=bD h
        have:∃p c,va= .slice p len c:=by
          cases base with
          |none=>obtain⟨rfl,_,rfl⟩:=md ha;exact⟨_,_,rfl⟩
          |some p=>obtain⟨m,j⟩:=p;obtain⟨_,_,_,_,_,rfl⟩:=uy ha;exact⟨_,_,rfl⟩
        obtain⟨p,c,rfl⟩:=this
        refine fin _ ?_ rfl rfl rfl
        simp only[Builtin.len_,h1,W8,Sem.run_bind,dx e1,Result.andThen_ok,Sem.run_pure]
      case U n o len=>
        obtain⟨rfl,rfl⟩:=bD h
        simp only[VR] at ha
        rcases ha with⟨_,rfl,_,_,rfl,_⟩|⟨b,sh,c,_,rfl,_⟩<;>
        (refine fin _ ?_ rfl rfl rfl
         simp only[Builtin.len_,h1,W8,Sem.run_bind,dx e1,Result.andThen_ok,Sem.run_pure])
theorem MP{f:AV->AV->Option AV}{g:Value->Value->Sem Value}(hf:∀a b c va vb,f a b=some c->VR ρ a va->VR ρ b vb->∃vc,(g va vb).run P w= .ok vc w/\VR ρ c vc):
 ∀{l:List AV} {vs:List Value} {a c:AV} {va:Value},CY f l a=some c->ay ρ l vs->VR ρ a va->∃vc,(vs.foldlM g va).run P w= .ok vc w/\VR ρ c vc
 |[],vs,a,c,va,h,hl,ha=>by
  simp only[ay] at hl;subst hl;simp only[CY] at h;injection h with h;subst h
  exact⟨va,rfl,ha⟩
 |y::l,vs,a,c,va,h,hl,ha=>by
  simp only[ay] at hl;obtain⟨v,ys,rfl,hv,hl⟩:=hl;simp only[CY] at h;cases e:f a y with
  |none=>rw[e] at h;cases h
  |some z=>simp only[e] at h;obtain⟨vz,g1,g2⟩:=hf a y z va v e ha hv;obtain⟨vc,g3,g4⟩:=MP hf h hl g2;exact⟨vc,by simp only[List.foldlM_cons,Sem.run_bind,g1,Result.andThen_ok,g3],g4⟩
theorem abn(a b c:AV)(va vb:Value)(h:min2 a b=some c)(ha:VR ρ a va)(hb:VR ρ b vb):∃vc,(Builtin.min2 va vb).run P w= .ok vc w/\VR ρ c vc:=by
 unfold min2 at h;split at h
 ·rename_i k x k2 y;injection h with h;subst h
  simp only[VR] at ha hb;subst ha;subst hb;refine⟨_,rfl,?_⟩;simp only[VR];by_cases q:y<x<;>simp[q]
 ·cases h
theorem abo(a b c:AV)(va vb:Value)(h:max2 a b=some c)(ha:VR ρ a va)(hb:VR ρ b vb):∃vc,(Builtin.max2 va vb).run P w= .ok vc w/\VR ρ c vc:=by
 unfold max2 at h;split at h
 ·rename_i k x k2 y;injection h with h;subst h
  simp only[VR] at ha hb;subst ha;subst hb;refine⟨_,rfl,?_⟩;simp only[VR];by_cases q:y>x<;>simp[q]
 ·cases h
theorem YG{l:List AV}(hl:ay ρ l vs.toList)(fi:bx s)(r:Rel B ρ s.h w)(hf:dE s.nx s1.nx ρ)(h:yy P b ts l s= .ok x s1):ga P B ρ s s1 w x<|Go.builtin b ts ty consts vs:=by
 obtain⟨vs⟩:=vs;unfold yy at h;split at h
 ·rename_i y;simp only[ay] at hl;obtain⟨v,ys,rfl,hv,rfl⟩:=hl;exact(abm hv fi r h).op
 ·rename_i y z;simp only[ay] at hl;obtain⟨v,ys,rfl,hv,v2,Ee,rfl,vP,rfl⟩:=hl;exact(YF hv vP fi r hf h).op
 ·rename_i y z;simp only[ay] at hl;obtain⟨v,ys,rfl,hv,v2,Ee,rfl,vP,rfl⟩:=hl;exact(Zs hv vP fi r h).op
 ·rename_i y z;simp only[ay] at hl;obtain⟨v,ys,rfl,hv,hl⟩:=hl;obtain⟨h1,rfl⟩:=hI h;obtain⟨vc,g1,g2⟩:=MP (P:=P) (w:=w) abn h1 hl hv;exact jU.op (c:=Builtin.min_ ts ty ⟨v::ys⟩) ⟨ρ,w,vc,Ext.refl _ _ _,g1,g2,r,cH.refl _ _⟩
 ·rename_i y z;simp only[ay] at hl;obtain⟨v,ys,rfl,hv,hl⟩:=hl;obtain⟨h1,rfl⟩:=hI h;obtain⟨vc,g1,g2⟩:=MP (P:=P) (w:=w) abo h1 hl hv;exact jU.op (c:=Builtin.max_ ts ty ⟨v::ys⟩) ⟨ρ,w,vc,Ext.refl _ _ _,g1,g2,r,cH.refl _ _⟩
 ·cases h
theorem Zt{y:AV}{n q k:Nat}(eO:A7 B Ye)(oO:∀t a,Yd<|Ye t a)(hl:ay ρ [y,.U n q k] vs.toList)(fi:bx s)(r:Rel B ρ s.h w)(hf:dE s.nx s1.nx ρ)(h:AJ P Ye ts y n q k s= .ok x s1):ga P B ρ s s1 w x<|Go.builtin .append ts ty consts vs:=by obtain⟨vs⟩:=vs;simp only[ay] at hl;obtain⟨v,ys,rfl,hv,hl⟩:=hl;obtain⟨v2,Ee,rfl,vP,rfl⟩:=hl;exact(YY eO oO hv vP fi r hf h).op
theorem YH{args:Array Operand}(eO:A7 B Ye)(oO:∀t a,Yd<|Ye t a)(he:∀x v,aG t x=some v->VR ρ v (ev x))(fi:bx s)(r:Rel B ρ s.h w)(hf:dE s.nx s1.nx ρ)(h:og P b ts args.toList Ye t s= .ok x s1)(ho:o.op= .call ⟨.builtin b,args,ts⟩):ga P B ρ s s1 w x<|execOp ev o:=by
 unfold og at h;obtain⟨vs,h1,h2⟩:=bt h;have hl:=Fc he h1;have key:(∃y n q k,b= .append/\vs=[y,.U n q k]/\AJ P Ye ts y n q k s= .ok x s1)\/yy P b ts vs s= .ok x s1:=by
  split at h2
  ·exact .inl ⟨_,_,_,_,rfl,rfl,h2⟩
  ·exact .inr h2
 have all:∀consts:Array Bool,ga P B ρ s s1 w x<|Go.builtin b ts o.type consts<|args.map ev:=fun consts=>by
  rcases key with⟨y,n,q,k,rfl,rfl,h2⟩|h2
  ·exact Zt eO oO (by simpa using hl) fi r hf h2
  ·exact YG (vs:=args.map ev) (by simpa using hl) fi r hf h2
 have:=all (args.map fun| .const _=>true|_=>false);obtain⟨σ,w',nv,a1,a2,a3⟩:=this;refine⟨σ,w',nv,a1,?_,a3⟩;simp only[execOp,ho,resolve,Sem.run_bind,Sem.run_pure,Result.andThen_ok,invoke];exact a2
end
end Go.Rn
namespace Go.Rn
open Go.RowKit
variable {key a:AV} {v:Value} {r:Option<|Nat×AV} {kd:TypeDesc} {k:TypeId} {l:List MapEntry} {es:List<|AV×AV}
section
variable {P:Program} {B:aJ} {ρ:aw} {w:World} {s s1:AS} {x:AV} {Ye:aI} {t:Tr AV} {ev:Operand->Value} {o:Oper}
theorem Lo{em:Bool}{d:Nat}{BS:TypeId->AV->Bool}(hc:∀ty a v,BS ty a=true->VR ρ a v->(Instr.checkKey em d ty v).run P w= .ok () w){cs:List AV}{ds:Array Value}(hx:ay ρ cs ds.toList):∀{fs:List Field},EO P BS cs fs=true->
 (forIn fs PUnit.unit fun f _=>do
  if f.name≠ "_" then do
   Instr.checkKey em d f.type (←part f.type ds f.offset)
   pure (ForInStep.yield PUnit.unit)
  else pure (ForInStep.yield PUnit.unit):Sem PUnit).run P w= .ok PUnit.unit w
 |[],_=>rfl
 |f::fs,h=>by
  simp only[EO] at h;rw[List.forIn_cons];cases en:(f.name == "_") with
  |true=>
   simp only[en] at h;have:¬(f.name≠ "_"):=by simpa using en
   rw[if_neg this];simp only[Sem.run_bind,Sem.run_pure,Result.andThen_ok];exact Lo hc hx h
  |false=>
   simp only[en] at h;have cn:f.name≠ "_" :=by intro e;rw[e] at en;simp at en
   rw[if_pos cn];cases e1:uU P f.type cs f.offset with
   |none=>simp only[e1] at h;cases h
   |some a=>
    simp only[e1] at h;obtain⟨v,g1,g2⟩:=EP (w:=w) hx e1;cases e2:BS f.type a with
    |false=>simp only[e2] at h;cases h
    |true=>simp only[e2] at h;simp only[Sem.run_bind,Sem.run_pure,Result.andThen_ok,g1,hc _ _ _ e2 g2];exact Lo hc hx h
theorem HJ{em:Bool}:∀{d:Nat} {ty:TypeId} {a:AV} {v:Value},oy P d ty a=true->VR ρ a v->(Instr.checkKey em d ty v).run P w= .ok () w
 |0,_,_,_,h,_=>by simp only[oy] at h;cases h
 |d+1,ty,a,v,h,ha=>by
  simp only[oy] at h;rw[Instr.checkKey];split at h<;>first|(cases h;done)|skip
  ·rename_i e;simp[dx e]
  ·rename_i e;simp[dx e]
  ·rename_i e;simp[dx e]
  ·rename_i fs cs e;simp only[VR] at ha;obtain⟨ds,rfl,hl⟩:=ha;simp only[Sem.run_bind,dx e,Result.andThen_ok];have:=Lo (P:=P) (w:=w) (em:=em) (d:=d) (fun ty a v h1 h2=>HJ h1 h2) hl h;rw[←Array.forIn_toList];simp only[this,Result.andThen_ok,Sem.run_pure]
theorem EH{b:AV}{c:Bool}{u:Value}(hk:P.underlying k=some kd)(hp:plainKey P k a=true)(h:sameKey a b=some c)(ha:VR ρ a v)(hb:VR ρ b u):Instr.sameNow kd v u=some c:=by
 unfold plainKey at hp;rw[hk] at hp;unfold sameKey at h;split at h<;>first|(cases h;done)|skip
 ·rename_i k1 x1 k2 x2;simp only[VR] at ha hb;subst ha;subst hb;cases PV:decide (k1=k2) with
  |false=>rw[PV] at h;cases h
  |true=>
   rw[PV] at h;injection h with h;subst h
   have:=of_decide_eq_true PV;cases kd<;>first|(cases hp;done)|simp[Instr.sameNow,this]
 ·injection h with h;subst h
  simp only[VR] at ha hb;subst ha;subst hb;cases kd<;>first|(cases hp;done)|simp[Instr.sameNow]
 ·injection h with h;subst h
  simp only[VR] at ha hb;subst ha;subst hb;cases kd<;>first|(cases hp;done)|simp[Instr.sameNow]
def Dr(ρ:aw)(es:List<|AV×AV)(l:List MapEntry)(i:Nat):Option (Nat×AV)->Option (Nat×Value)->Prop
 |none,r=>r=none
 |some (j,x),r=>∃y q e,r=some (j,y)/\VR ρ x y/\i<=j/\es[j - i]? =some q/\l[j - i]? =some e/\VR ρ q.1 e.key/\q.2=x/\e.val=y
theorem Dr.next{i:Nat}{p:AV×AV}{e:MapEntry}{r':Option<|Nat×Value}(h:Dr ρ es l (i+1) r r'):Dr ρ (p::es) (e::l) i r r':=by
 cases r with
 |none=>exact h
 |some q=>
  obtain⟨j,x⟩:=q;obtain⟨y,q,e2,h1,h2,h3,h4,h5,h6⟩:=h;refine⟨y,q,e2,h1,h2,by omega,?_,?_,h6⟩
  ·rw[show j - i=(j - (i+1))+1 from by omega];simpa using h4
  ·rw[show j - i=(j - (i+1))+1 from by omega];simpa using h5
theorem QZ{k:TypeId}{kd:TypeDesc}{key:AV}{v:Value}(hk:P.underlying k=some kd)(hp:plainKey P k key=true)(hv:VR ρ key v):∀{es:List<|AV×AV} {l:List MapEntry} {i:Nat} {r:Option<|Nat×AV},
 dT ρ es l->kR key es i=some r->∃r',Instr.findNow kd v l i=some r'/\Dr ρ es l i r r'
 |[],l,i,r,he,h=>by
  have GM:l=[]:=he;subst GM;simp only[kR] at h;injection h with h;subst h
  exact⟨none,rfl,rfl⟩
 |(a,b)::es,l,i,r,he,h=>by
  obtain⟨e,l',rfl,h1,h2,h3⟩:=he;simp only[kR] at h;cases q:sameKey key a with
  |none=>rw[q] at h;cases h
  |some c=>
   have:=EH hk hp q hv h1;cases c with
   |true=>
    simp only[q] at h;injection h with h;subst h
    exact⟨some (i,e.val),by simp only[Instr.findNow,this],e.val,(a,b),e,rfl,h2,Nat.le_refl _,by simp,by simp,h1,rfl,rfl⟩
   |false=>simp only[q] at h;obtain⟨r',g1,g2⟩:=QZ hk hp hv h3 h;exact⟨r',by simp only[Instr.findNow,this];exact g1,g2.next⟩
theorem Q5{k:TypeId}{key:AV}{v:Value}(hv:VR ρ key v):∀{es:List<|AV×AV} {l:List MapEntry} {i:Nat} {r:Option<|Nat×AV},
 dT ρ es l->E7 P k key es i=some r->∃r',(Instr.findAsking k v l i).run P w= .ok r' w/\Dr ρ es l i r r'
 |[],l,i,r,he,h=>by
  have GM:l=[]:=he;subst GM;simp only[E7] at h;injection h with h;subst h
  exact⟨none,rfl,rfl⟩
 |(a,b)::es,l,i,r,he,h=>by
  obtain⟨e,l',rfl,h1,h2,h3⟩:=he;simp only[E7] at h;cases q:pF P Op.maxDepth k key a with
  |none=>rw[q] at h;cases h
  |some c=>
   have hq:(Op.equal k v e.key).run P w= .ok c w:=It q hv h1;cases c with
   |true=>
    simp only[q] at h;injection h with h;subst h
    exact⟨some (i,e.val),by simp[Instr.findAsking,hq],e.val,(a,b),e,rfl,h2,Nat.le_refl _,by simp,by simp,h1,rfl,rfl⟩
   |false=>simp only[q] at h;obtain⟨r',g1,g2⟩:=Q5 hv h3 h;exact⟨r',by simp[Instr.findAsking,hq,g1],g2.next⟩
theorem aeo{k:IntKind}{n:Int}(ha:VR ρ a<|.int k n):a= .int k n:=by
 cases a<;>(try simp only[VR] at ha)<;>first|(cases ha;rfl)|(cases ha;done)|skip
 ·rename_i q;cases q<;>simp only[VR] at ha<;>first|(cases ha;done)|(obtain⟨_,_,_,e⟩:=ha;cases e)
 ·rename_i q l c;cases q with
  |none=>obtain⟨_,_,e⟩:=md ha;cases e
  |some q=>obtain⟨n,i⟩:=q;obtain⟨_,_,_,_,_,e⟩:=uy ha;cases e
 ·rcases ha with⟨_,_,_,_,e,_⟩|⟨_,_,_,_,e,_⟩<;>cases e
 ·obtain⟨_,_,_,e⟩:=ha;cases e
 ·rename_i q;cases q<;>simp only[VR] at ha<;>first|(cases ha;done)|(obtain⟨_,_,_,e⟩:=ha;cases e)
 ·obtain⟨_,_,_,e,_⟩:=ha;cases e
 ·obtain⟨_,_,_,e⟩:=ha;cases e
 ·obtain⟨_,e,_⟩:=ha;cases e
 ·obtain⟨_,e,_⟩:=ha;cases e
 ·obtain⟨_,e,_⟩:=ha;cases e
theorem aep{q:ByteArray}(hz:tW a=true)(ha:VR ρ a<|.string q):a= .str q:=by
 cases a<;>(try cases hz;done)<;>(try simp only[VR] at ha)<;>first|(cases ha;rfl)|(cases ha;done)|skip
 ·rename_i q;cases q<;>simp only[VR] at ha<;>first|(cases ha;done)|(obtain⟨_,_,_,e⟩:=ha;cases e)
 ·rename_i q l c;cases q with
  |none=>obtain⟨_,_,e⟩:=md ha;cases e
  |some q=>obtain⟨n,i⟩:=q;obtain⟨_,_,_,_,_,e⟩:=uy ha;cases e
 ·rcases ha with⟨_,_,_,_,e,_⟩|⟨_,_,_,_,e,_⟩<;>cases e
 ·obtain⟨_,_,_,e⟩:=ha;cases e
 ·rename_i q;cases q<;>simp only[VR] at ha<;>first|(cases ha;done)|(obtain⟨_,_,_,e⟩:=ha;cases e)
 ·obtain⟨_,_,_,e,_⟩:=ha;cases e
 ·obtain⟨_,_,_,e⟩:=ha;cases e
 ·obtain⟨_,e,_⟩:=ha;cases e
 ·obtain⟨_,e,_⟩:=ha;cases e
 ·obtain⟨_,e,_⟩:=ha;cases e
theorem T8{b:Bool}(ha:VR ρ a<|.bool b):a= .bool b:=by
 cases a<;>(try simp only[VR] at ha)<;>first|(cases ha;rfl)|(cases ha;done)|skip
 ·rename_i q;cases q<;>simp only[VR] at ha<;>first|(cases ha;done)|(obtain⟨_,_,_,e⟩:=ha;cases e)
 ·rename_i q l c;cases q with
  |none=>obtain⟨_,_,e⟩:=md ha;cases e
  |some q=>obtain⟨n,i⟩:=q;obtain⟨_,_,_,_,_,e⟩:=uy ha;cases e
 ·rcases ha with⟨_,_,_,_,e,_⟩|⟨_,_,_,_,e,_⟩<;>cases e
 ·obtain⟨_,_,_,e⟩:=ha;cases e
 ·rename_i q;cases q<;>simp only[VR] at ha<;>first|(cases ha;done)|(obtain⟨_,_,_,e⟩:=ha;cases e)
 ·obtain⟨_,_,_,e,_⟩:=ha;cases e
 ·obtain⟨_,_,_,e⟩:=ha;cases e
 ·obtain⟨_,e,_⟩:=ha;cases e
 ·obtain⟨_,e,_⟩:=ha;cases e
 ·obtain⟨_,e,_⟩:=ha;cases e
theorem abp(hk:P.underlying k=some kd)(hz:tW key=true)(hp:plainKey P k key=false)(hv:VR ρ key v)(u:Value):Instr.sameNow kd v u=none:=by
 cases e:Instr.sameNow kd v u with
 |none=>rfl
 |some c=>
  exfalso;unfold Instr.sameNow at e;unfold plainKey at hp;rw[hk] at hp;split at e<;>first|(cases e;done)|skip
  ·rw[aeo hv] at hp;cases hp
  ·rw[aep hz hv] at hp;cases hp
  ·rw[T8 hv] at hp;cases hp
theorem U4{o:Option<|Option<|Nat×AV}(h:(match tW key with|false=>none|true=>o)=some r):tW key=true:=by
 cases hz:tW key with
 |false=>rw[hz] at h;cases h
 |true=>rfl
theorem Rl(hk:P.underlying k=some kd)(hv:VR ρ key v)(he:dT ρ es l)(h:findKey P k key es=some r):
 ∃r',(Instr.findKey k v l).run P w= .ok r' w/\Dr ρ es l 0 r r':=by
 unfold findKey at h;cases hz:tW key with
 |false=>rw[hz] at h;cases h
 |true=>
 simp only[hz] at h;cases hp:plainKey P k key with
 |true=>simp only[hp] at h;obtain⟨r',g1,g2⟩:=QZ hk hp hv he h;exact⟨r',MapKept.run_findKey hk g1,g2⟩
 |false=>
  simp only[hp] at h;obtain⟨r',g1,g2⟩:=Q5 (P:=P) (w:=w) hv he h;refine⟨r',?_,g2⟩;cases l with
  |nil=>
   have xW:Result.ok none w=Result.ok r' w:=g1;injection xW with xW;subst xW
   exact MapKept.run_findKey hk rfl
  |cons e l=>
   have:Instr.findNow kd v (e::l) 0=none:=by simp only[Instr.findNow,abp hk hz hp hv e.key]
   simp only[Instr.findKey,Sem.run_bind,dx hk,Result.andThen_ok,this];exact g1
theorem Lm:∀{es:List<|AV×AV} {i:Nat},kR key es i=some none->∀p∈es,sameKey key p.1=some false
 |[],_,_,p,hp=>by cases hp
 |(a,b)::es,i,h,p,hp=>by
  simp only[kR] at h;cases q:sameKey key a with
  |none=>rw[q] at h;cases h
  |some c=>
   cases c with
   |true=>simp only[q] at h;cases h
   |false=>
    simp only[q] at h;rcases List.mem_cons.1 hp with rfl|hp
    ·exact q
    ·exact Lm h p hp
theorem QV{key:AV}:∀{es:List<|AV×AV} {i j:Nat} {x:AV},kR key es i=some (some (j,x))->i<=j/\∃q,es[j - i]? =some q/\q.2=x/\sameKey key q.1=some true
 |[],_,_,_,h=>by simp[kR] at h
 |(a,b)::es,i,j,x,h=>by
  simp only[kR] at h;cases q:sameKey key a with
  |none=>rw[q] at h;cases h
  |some c=>
   cases c with
   |true=>
    simp only[q] at h;injection h with h;injection h with h;injection h with h1 h2;subst h1;subst h2
    exact⟨Nat.le_refl _,(a,b),by simp,rfl,q⟩
   |false=>simp only[q] at h;obtain⟨h1,p,h2,h3⟩:=QV h;refine⟨by omega,p,?_,h3⟩;rw[show j - i=(j - (i+1))+1 from by omega];simpa using h2
end
end Go.Rn
namespace Go.Rn
open Go.RowKit
variable {v u:Value} {a b key:AV} {l l':List MapEntry} {es:List<|AV×AV} {ty:TypeId} {kd:TypeDesc}
theorem Lr(h:sameKey a b=some true)(c:AV):sameKey a c=sameKey b c:=by
 unfold sameKey at h;split at h<;>first|(cases h;done)|skip
 ·rename_i k x k' y;cases hk:decide (k=k') with
  |false=>rw[hk] at h;cases h
  |true=>
   rw[hk] at h;injection h with h
   have e1:=of_decide_eq_true hk;have e2:x=y:=by simpa using h
   rw[e1,e2]
 ·rename_i x y;injection h with h
  rw[bytes_beq] at h;have e:x.toList=y.toList:=by simpa using h
  cases c<;>first|rfl|simp only[sameKey,bytes_beq,e]
 ·rename_i x y;injection h with h
  have e:x=y:=by simpa using h
  rw[e]
theorem Ls(a b:AV):sameKey a b=sameKey b a:=by
 cases a<;>cases b<;>first|rfl|skip
 ·rename_i x y;cases x<;>cases y<;>rfl
 ·rename_i k x k' y;by_cases e:k=k'
  ·subst e;show(match decide (k=k) with|true=>some (x == y)|false=>none)=(match decide (k=k) with|true=>some (y == x)|false=>none);rw[decide_eq_true (rfl:k=k)];show some (x == y)=some (y == x);rw[BEq.comm]
  ·show(match decide (k=k') with|true=>some (x == y)|false=>none)=(match decide (k'=k) with|true=>some (y == x)|false=>none);rw[decide_eq_false e,decide_eq_false<|Ne.symm e]
 ·rename_i x y;show some (x == y)=some (y == x);rw[bytes_beq,bytes_beq,BEq.comm]
theorem lp.at{es:List<|AV×AV}(h:lp es){i j:Nat}{p q:AV×AV}(hi:es[i]? =some p)(hj:es[j]? =some q)(cn:i≠j):sameKey p.1 q.1=some false:=by
 unfold lp at h;rw[List.pairwise_iff_getElem] at h;obtain⟨li,ei⟩:=List.getElem?_eq_some_iff.1 hi;obtain⟨lj,ej⟩:=List.getElem?_eq_some_iff.1 hj;rcases Nat.lt_or_ge i j with q'|q'
 ·have:=(h i j li lj q').1;rw[ei,ej] at this;exact this
 ·have:=(h j i lj li aj).2;rw[ei,ej] at this;exact this
theorem LH{ρ:aw}(h:sameKey a b=some true)(ha:VR ρ a v)(hb:VR ρ b u)(m:Nat):Instr.sameBits m v u=true:=by
 unfold sameKey at h;split at h<;>first|(cases h;done)|skip
 ·rename_i k x k' y;cases hk:decide (k=k') with
  |false=>rw[hk] at h;cases h
  |true=>
   rw[hk] at h;injection h with h
   simp only[VR] at ha hb;subst ha;subst hb;have e1:=of_decide_eq_true hk;subst e1;cases m<;>simpa[Instr.sameBits] using h
 ·injection h with h
  simp only[VR] at ha hb;subst ha;subst hb;cases m<;>simpa[Instr.sameBits] using h
 ·injection h with h
  simp only[VR] at ha hb;subst ha;subst hb;cases m<;>simpa[Instr.sameBits] using h
theorem Rm{ρ:aw}(m:Nat):∀{xs ys:List AV} {vs us:List Value},yF xs ys=true->ay ρ xs vs->ay ρ ys us->vs.length=us.length/\((vs.zip us).all fun(x,y)=>Instr.sameBits m x y)=true
 |[],[],vs,us,_,h1,h2=>by simp only[ay] at h1 h2;subst h1;subst h2;simp
 |[],_::_,_,_,h,_,_=>by simp[yF] at h
 |_::_,[],_,_,h,_,_=>by simp[yF] at h
 |x::xs,y::ys,vs,us,h,h1,h2=>by
  simp only[ay] at h1 h2;obtain⟨v,vs,rfl,a1,b1⟩:=h1;obtain⟨u,us,rfl,a2,b2⟩:=h2;simp only[yF] at h;cases e:sameKey x y with
  |none=>rw[e] at h;cases h
  |some c=>
   cases c with
   |false=>rw[e] at h;cases h
   |true=>rw[e] at h;obtain⟨p,q⟩:=Rm m h b1 b2;exact⟨by simp[p],by simp only[List.zip_cons_cons,List.all_cons,LH e a1 a2 m,Bool.true_and];exact q⟩
theorem YI{ρ:aw}(h:sameBits a b=true)(ha:VR ρ a v)(hb:VR ρ b u)(m:Nat):Instr.sameBits (m+1) v u=true:=by
 unfold sameBits at h;split at h
 ·rename_i xs ys;simp only[VR] at ha hb;obtain⟨vs,rfl,h1⟩:=ha;obtain⟨us,rfl,h2⟩:=hb;obtain⟨p,q⟩:=Rm m h h1 h2;simp only[Instr.sameBits,Bool.and_eq_true,beq_iff_eq];exact⟨by simpa using p,q⟩
 ·split at h
  ·rename_i e;exact LH e ha hb _
  ·cases h
theorem Sg{P:Program}{w:World}(h:Instr.sameBits 10000 v u=true):(Instr.keyThatStays v u).run P w= .ok u w:=by simp[Instr.keyThatStays,h]
theorem Q6:∀{l:List MapEntry} {i:Nat},(∀e∈l,Instr.sameNow kd v e.key=some false)->Instr.findNow kd v l i=some none
 |[],_,_=>rfl
 |e::l,i,h=>by simp only[Instr.findNow,h e List.mem_cons_self];exact Q6 fun e he=>h e<|List.mem_cons_of_mem _ he
theorem Q7{kd:TypeDesc}{v:Value}:∀{l:List MapEntry} {i:Nat},(∀e∈l,∃c,Instr.sameNow kd v e.key=some c)->(∃e∈l,Instr.sameNow kd v e.key=some true)->
 ∃j e,l[j]? =some e/\Instr.sameNow kd v e.key=some true/\Instr.findNow kd v l i=some (some (i+j,e.val))
 |[],_,_,h=>by obtain⟨_,h,_⟩:=h;cases h
 |e::l,i,h,k=>by
  obtain⟨c,hc⟩:=h e List.mem_cons_self;cases c with
  |true=>exact⟨0,e,rfl,hc,by simp only[Instr.findNow,hc,Nat.add_zero]⟩
  |false=>
   obtain⟨e2,h2,h3⟩:=k;have rT:e2∈l:=by
    rcases List.mem_cons.1 h2 with rfl|h2
    ·rw[hc] at h3;cases h3
    ·exact h2
   obtain⟨j,e3,g1,g2,g3⟩:=Q7 (i:=i+1) (fun e he=>h e<|List.mem_cons_of_mem _ he) ⟨e2,rT,h3⟩;exact⟨j+1,e3,by simpa using g1,g2,by simp only[Instr.findNow,hc];rw[g3];congr 3;omega⟩
section
variable {P:Program} {B:aJ} {ρ:aw} {w:World} {s s1:AS} {x:AV} {Ye:aI} {t:Tr AV} {ev:Operand->Value} {o:Oper}
theorem dT.get:∀{es:List<|AV×AV} {l:List MapEntry} {i:Nat} {e:MapEntry},dT ρ es l->l[i]? =some e->∃p,es[i]? =some p/\VR ρ p.1 e.key/\VR ρ p.2 e.val
 |[],l,i,e,h,k=>by have h':l=[]:=h;subst h';simp at k
 |p::es,l,i,e,h,k=>by
  obtain⟨e2,l2,rfl,h1,h2,h3⟩:=h;cases i with
  |zero=>simp at k;subst k;exact⟨p,rfl,h1,h2⟩
  |succ i=>simp at k;obtain⟨q,g1,g2⟩:=h3.get k;exact⟨q,by simpa using g1,g2⟩
theorem dT.get'{i:Nat}{p:AV×AV}(h:dT ρ es l)(k:es[i]? =some p):∃e,l[i]? =some e/\VR ρ p.1 e.key/\VR ρ p.2 e.val:=by obtain⟨li,ei⟩:=List.getElem?_eq_some_iff.1 k;have hl:=h.length;have hi:l[i]? =some (l[i]'aj):=List.getElem?_eq_getElem _;obtain⟨q,g1,g2⟩:=h.get hi;rw[k] at g1;cases g1;exact⟨_,hi,g2⟩
theorem Ro{k:TypeId}{r:Option<|Nat×AV}(hk:P.underlying k=some kd)(hp:plainKey P k key=true)(hv:VR ρ key v)(ka:lp es)(he:dT ρ es l')(hl:l.Perm l')(h:kR key es 0=some r):
 (r=none->Instr.findNow kd v l 0=some none)/\(∀j y,r=some (j,y)->∃j' e,Instr.findNow kd v l 0=some (some (j',e.val))/\l[j']? =some e/\l'[j]? =some e/\VR ρ y e.val/\∃p,es[j]? =some p/\sameKey key p.1=some true):=by
 have ah:∀e∈l,∃(j:Nat) (p:AV×AV),l'[j]? =some e/\es[j]? =some p/\VR ρ p.1 e.key/\VR ρ p.2 e.val:=by
  intro e hm;obtain⟨j,hj,e1⟩:=List.getElem_of_mem<|hl.mem_iff.1 hm;have B1:l'[j]? =some e:=by rw[List.getElem?_eq_getElem hj,e1]
  obtain⟨p,g1,g2,g3⟩:=he.get B1;exact⟨j,p,B1,g1,g2,g3⟩
 constructor
 ·intro hr;subst hr;refine Q6 fun e hm=>?_;obtain⟨j,p,g1,g2,g3,g4⟩:=ah e hm;exact EH hk hp (Lm h p<|List.mem_of_getElem? g2) hv g3
 ·intro j y hr;subst hr;obtain⟨_,q,h1,h2,h3⟩:=QV h;rw[Nat.sub_zero] at h1;have all:∀e∈l,∃(j2:Nat) (p:AV×AV),l'[j2]? =some e/\es[j2]? =some p/\VR ρ p.2 e.val/\Instr.sameNow kd v e.key=some (decide<|j2=j):=by
   intro e hm;obtain⟨j2,p,g1,g2,g3,g4⟩:=ah e hm;refine⟨j2,p,g1,g2,g4,?_⟩;by_cases e2:j2=j
   ·subst e2;rw[h1] at g2;cases g2;simp only[decide_true];exact EH hk hp h3 hv g3
   ·rw[decide_eq_false e2];refine EH hk hp ?_ hv g3;rw[Lr h3];exact ka.at h1 g2<|Ne.symm e2
  obtain⟨e0,g1,g2,g3⟩:=he.get' h1;have zN:e0∈l:=hl.mem_iff.2<|List.mem_of_getElem? g1;obtain⟨j',e,f1,f2,f3⟩:=Q7 (kd:=kd) (v:=v) (l:=l) (i:=0) (fun e hm=>let ⟨_,_,_,_,_,h⟩:=all e hm;⟨_,h⟩) ⟨e0,zN,EH hk hp h3 hv g2⟩;rw[Nat.zero_add] at f3;obtain⟨j2,p,a1,a2,a3,a4⟩:=all e<|List.mem_of_getElem? f1;rw[f2] at a4;injection a4 with a4
  have e2:j2=j:=by simpa using a4.symm
  subst e2;rw[h1] at a2;cases a2;exact⟨j',e,f3,f1,a1,by rw[←h2];exact a3,q,h1,h3⟩
theorem Zu(h:short es=true)(he:dT ρ es l')(hl:l.Perm l'):dT ρ es l:=by
 have hlen:=he.length;unfold short at h;split at h<;>first|(cases h;done)|skip
 ·have:l'=[]:=by cases l'<;>first|rfl|simp at hlen
  subst this;rw[List.perm_nil.1 hl];exact he
 ·match l',hlen,hl,he with
  |[e],_,hl,he=>rw[List.perm_singleton.1 hl];exact he
theorem VR.zL{ok b:Bool}{y:AV}{v:Value}(h:VR ρ y v):VR ρ (zL ok y b) (if ok=true then .tuple #[v,.bool b] else v):=by
 cases ok with
 |false=>exact h
 |true=>simp only[Rn.zL,if_true,VR,ay];exact⟨_,rfl,v,_,rfl,h,.bool b,_,rfl,rfl,rfl⟩
theorem LI:∀{d:Nat} {k:TypeId} {key:AV},oy P d k key=true->∃kd,P.underlying k=some kd
 |0,_,_,h=>by simp only[oy] at h;cases h
 |d+1,k,key,h=>by
  simp only[oy] at h;cases q:P.underlying k with
  |none=>rw[q] at h;cases h
  |some kd=>exact⟨kd,rfl⟩
theorem YZ{ok:Bool}{va vk:Value}(ha:VR ρ a va)(po:VR ρ key vk)(fi:bx s)(r:Rel B ρ s.h w)(h:yE P ty a key ok s= .ok x s1):
 jU P B ρ s s1 w x (Instr.lookup ty va vk ok):=by
 unfold yE at h;cases e1:P.underlying ty with
 |none=>simp only[e1] at h;cases h
 |some d=>
  cases d<;>simp only[e1] at h<;>first|(cases h;done)|skip
  rename_i k e;obtain⟨es,s2,h1,h2⟩:=M.aP h;obtain⟨h3,h4⟩:=cW h2;obtain⟨f,h5,h6⟩:=bt h4;have rU:∃kd,P.underlying k=some kd:=by exact LI h3
  obtain⟨kd,rU⟩:=rU;have vS:∀em,(Instr.checkKey em 10000 k vk).run P w= .ok () w:=fun em=>HJ h3 po;have main:∃l:Array MapEntry,((va= .map none/\l= #[])\/∃b aO,va= .map (some b)/\w.heap[b]? =some (.map l aO))/\s2.h=s.h/\s2.nx=s.nx/\
   ∃r',(Instr.findKey k vk l.toList).run P w= .ok r' w/\(f=none->r'=none)/\(∀j y,f=some (j,y)->∃j' z,r'=some (j',z)/\VR ρ y z):=by
   have exact:∀l:Array MapEntry,dT ρ es l.toList->∃r',(Instr.findKey k vk l.toList).run P w= .ok r' w/\(f=none->r'=none)/\(∀j y,f=some (j,y)->∃j' z,r'=some (j',z)/\VR ρ y z):=by intro l he;obtain⟨r',g1,g2⟩:=Rl (P:=P) (w:=w) rU po he h5;refine⟨r',g1,fun q=>by subst q;exact g2,fun j y q=>?_⟩;subst q;obtain⟨z,_,_,q1,q2,_⟩:=g2;exact⟨j,z,q1,q2⟩
   unfold yO at h1;split at h1
   ·obtain⟨rfl,rfl⟩:=bD h1;simp only[VR] at ha;subst ha;exact⟨#[],.inl ⟨rfl,rfl⟩,rfl,rfl,exact #[] rfl⟩
   ·rename_i m;obtain⟨ob,s3,h7,h8⟩:=M.aP h1;obtain⟨hx,hg,hh,cM⟩:=fY h7;have ht:m<top:=Nat.lt_of_lt_of_le hx fi.nx;simp only[VR] at ha;obtain⟨b,N,hm,rfl⟩:=ha;obtain⟨o',hb,hO,_⟩:=r.block ht hg hm;cases ob with
    |map g9 aO=>obtain⟨rfl,rfl⟩:=bD h8;obtain⟨l,rfl,_,q⟩:=hO;exact⟨l,.inr ⟨b,aO,rfl,hb⟩,hh,cM,exact l q.eqs⟩
    |jQ g9=>
     obtain⟨h9,gE⟩:=cW h8;obtain⟨rfl,rfl⟩:=bD gE;obtain⟨l,aO,rfl,ka,_,l',hp,he⟩:=hO;refine⟨l,.inr ⟨b,aO,rfl,hb⟩,hh,cM,?_⟩;cases q:plainKey P k key with
     |false=>rw[q] at h9;exact exact l<|Zu h9 he hp
     |true=>
      unfold findKey at h5;have hz:tW _=true:=U4 h5;simp only[hz] at h5;simp only[q] at h5;obtain⟨g1,g2⟩:=Ro rU q po ka he hp h5;cases f with
      |none=>exact⟨none,MapKept.run_findKey rU<|g1 rfl,(fun _=>rfl),(fun j y e=>by cases e)⟩
      |some p=>obtain⟨j,y⟩:=p;obtain⟨j',e,f1,_,_,f2,_⟩:=g2 j y rfl;exact⟨some (j',e.val),MapKept.run_findKey rU f1,(fun e=>by cases e),(fun j y e2=>by cases e2;exact⟨j',_,rfl,f2⟩)⟩
    |_=>cases h8
   ·cases h1
  obtain⟨l,m1,m2,m3,r',m4,m5,m6⟩:=main;cases f with
  |some p=>
   obtain⟨j,y⟩:=p;obtain⟨rfl,rfl⟩:=bD h6;obtain⟨j',z,rfl,hz⟩:=m6 j y rfl;refine⟨ρ,w,_,by rw[m3];exact Ext.refl _ _ _,?_,hz.zL,by rw[m2];exact r,cH.refl _ _⟩;rcases m1 with⟨rfl,rfl⟩|⟨b,aO,rfl,hb⟩
   ·simp only[Instr.lookup,Sem.run_bind,dx e1,Result.andThen_ok,vS,m4,Sem.run_pure]
   ·simp only[Instr.lookup,Sem.run_bind,dx e1,Result.andThen_ok,MapKept.run_getObj_map hb,vS,m4,Sem.run_pure]
  |none=>
   obtain⟨z,h7,h8⟩:=bt h6;obtain⟨rfl,rfl⟩:=bD h8;have:=m5 rfl;subst this;obtain⟨vz,g1,g2⟩:=Hs (P:=P) (w:=w) ρ h7;refine⟨ρ,w,_,by rw[m3];exact Ext.refl _ _ _,?_,g2.zL,by rw[m2];exact r,cH.refl _ _⟩;rcases m1 with⟨rfl,rfl⟩|⟨b,aO,rfl,hb⟩
   ·simp only[Instr.lookup,Sem.run_bind,dx e1,Result.andThen_ok,vS,m4,Sem.run_pure,g1]
   ·simp only[Instr.lookup,Sem.run_bind,dx e1,Result.andThen_ok,MapKept.run_getObj_map hb,vS,m4,Sem.run_pure,g1]
theorem Y0{y z:Operand}{ok:Bool}(he:∀x v,aG t x=some v->VR ρ v (ev x))(fi:bx s)(r:Rel B ρ s.h w)(h:wK P ty y z ok Ye t s= .ok x s1)(ho:o.op= .lookup ty y z ok):ga P B ρ s s1 w x<|execOp ev o:=by unfold wK at h;obtain⟨a,h1,h2⟩:=bt h;obtain⟨b,h3,h4⟩:=bt h2;have:=(YZ (P:=P) (he y a h1) (he z b h3) fi r h4).op;simpa only[execOp,ho] using this
end
end Go.Rn
namespace Go.Rn
open Go.RowKit
variable {key:AV} {vv vk:Value} {es:List<|AV×AV} {e:MapEntry} {ty:TypeId} {l:List MapEntry} {i aO:Nat}
theorem Sh:∀(es:List<|AV×AV) (i j:Nat) (k v:AV),(putAt es i k v)[j]? =if j=i then(es[j]?).map (fun _=>(k,v)) else es[j]?
 |[],i,j,k,v=>by simp[putAt]
 |p::es,0,j,k,v=>by cases j<;>simp[putAt]
 |p::es,i+1,j,k,v=>by
  cases j with
  |zero=>simp[putAt]
  |succ j=>simp[putAt,Sh es i j k v]
theorem Q8:∀(es:List<|AV×AV) (i:Nat) (k v:AV),(putAt es i k v).length=es.length
 |[],_,_,_=>rfl
 |_::_,0,_,_=>rfl
 |_::es,i+1,k,v=>by simp[putAt,Q8 es i k v]
def qU(k v:Value)(e:MapEntry):MapEntry:={e with key:=k,val:=v}
theorem kI.put{ρ:aw}{val:AV}(hk:VR ρ key vk)(hv:VR ρ val vv):∀{es:List<|AV×AV} {l:List MapEntry} {n i:Nat},kI ρ es l n->kI ρ (putAt es i key val) (l.modify i<|qU vk vv) n
 |[],l,n,i,h=>by have h':l=[]:=h;subst h';cases i<;>rfl
 |p::es,l,n,0,h=>by obtain⟨e,l',rfl,a,b,c,d⟩:=h;exact⟨qU vk vv e,l',rfl,hk,hv,c,d⟩
 |p::es,l,n,i+1,h=>by obtain⟨e,l',rfl,a,b,c,d⟩:=h;exact⟨e,l'.modify i<|qU vk vv,rfl,a,b,c,d.put hk hv⟩
theorem dT.put{ρ:aw}{val:AV}(hk:VR ρ key vk)(hv:VR ρ val vv):∀{es:List<|AV×AV} {l:List MapEntry} {i:Nat},dT ρ es l->dT ρ (putAt es i key val) (l.modify i<|qU vk vv)
 |[],l,i,h=>by have h':l=[]:=h;subst h';cases i<;>rfl
 |p::es,l,0,h=>by obtain⟨e,l',rfl,a,b,d⟩:=h;exact⟨qU vk vv e,l',rfl,hk,hv,d⟩
 |p::es,l,i+1,h=>by obtain⟨e,l',rfl,a,b,d⟩:=h;exact⟨e,l'.modify i<|qU vk vv,rfl,a,b,d.put hk hv⟩
theorem kI.push{ρ:aw}{val:AV}(hk:VR ρ key e.key)(hv:VR ρ val e.val):∀{es:List<|AV×AV} {l:List MapEntry} {n:Nat},kI ρ es l n->e.born=n+es.length->kI ρ (es++[(key,val)]) (l++[e]) n
 |[],l,n,h,hb=>by have h':l=[]:=h;subst h';exact⟨e,[],rfl,hk,hv,hb,rfl⟩
 |p::es,l,n,h,hb=>by obtain⟨e2,l',rfl,a,b,c,d⟩:=h;exact⟨e2,l'++[e],rfl,a,b,c,d.push hk hv (by simp at hb;omega)⟩
theorem dT.push{ρ:aw}{val:AV}(hk:VR ρ key e.key)(hv:VR ρ val e.val):∀{es:List<|AV×AV} {l:List MapEntry},dT ρ es l->dT ρ (es++[(key,val)]) (l++[e])
 |[],l,h=>by have h':l=[]:=h;subst h';exact⟨e,[],rfl,hk,hv,rfl⟩
 |p::es,l,h=>by obtain⟨e2,l',rfl,a,b,d⟩:=h;exact⟨e2,l'++[e],rfl,a,b,d.push hk hv⟩
theorem lp.of(h:∀(i j:Nat) (p q:AV×AV),i≠j->es[i]? =some p->es[j]? =some q->sameKey p.1 q.1=some false):lp es:=by unfold lp;rw[List.pairwise_iff_getElem];intro i j hi hj mA;exact⟨h i j _ _ aj (List.getElem?_eq_getElem hi)<|List.getElem?_eq_getElem hj,h j i _ _ aj (List.getElem?_eq_getElem hj)<|List.getElem?_eq_getElem hi⟩
theorem lp.put(h:lp es){p:AV×AV}{val:AV}(hi:es[i]? =some p)(hk:sameKey key p.1=some true):lp<|putAt es i key val:=by
 refine lp.of fun j k a b hjk ha hb=>?_;rw[Sh] at ha hb;by_cases e1:j=i
 ·have e2:k≠i:=by omega
  rw[if_pos e1,e1,hi] at ha;rw[if_neg e2] at hb;simp only[Option.map_some,Option.some.injEq] at ha;rw[←ha];show sameKey key b.1=some false;rw[Lr hk];exact h.at hi hb<|Ne.symm e2
 ·rw[if_neg e1] at ha;by_cases e2:k=i
  ·rw[if_pos e2,e2,hi] at hb;simp only[Option.map_some,Option.some.injEq] at hb;rw[←hb];show sameKey a.1 key=some false;rw[Ls,Lr hk];exact h.at hi ha<|Ne.symm e1
  ·rw[if_neg e2] at hb;exact h.at ha hb hjk
theorem lp.push(h:lp es){val:AV}(hk:∀p∈es,sameKey key p.1=some false):lp<|es++[(key,val)]:=by unfold lp at h ⊢;rw[List.pairwise_append];refine⟨h,by simp,fun a ha b hb=>?_⟩;simp only[List.mem_singleton] at hb;subst hb;exact⟨by rw[Ls];exact hk a ha,hk a ha⟩
theorem MQ{α:Type}(f:α->α):∀{l:List α} {j:Nat} {e:α},l[j]? =some e->l.Perm (e::l.eraseIdx j)/\(l.modify j f).Perm (f e::l.eraseIdx j)
 |[],j,e,h=>by simp at h
 |a::l,0,e,h=>by simp at h;subst h;exact⟨List.Perm.refl _,List.Perm.refl _⟩
 |a::l,j+1,e,h=>by
  simp at h;obtain⟨p,q⟩:=MQ f h;refine⟨?_,?_⟩
  ·exact(p.cons a).trans<|List.Perm.swap _ _ _
  ·rw[List.modify_succ_cons];exact(q.cons a).trans<|List.Perm.swap _ _ _
theorem aag{α:Type}(f:α->α){l l':List α}{j:Nat}{e:α}(hl:l.Perm l')(hi:l[i]? =some e)(hj:l'[j]? =some e):(l.modify i f).Perm<|l'.modify j f:=by obtain⟨p,q⟩:=MQ f hi;obtain⟨p',q'⟩:=MQ f hj;have:=((p.symm.trans hl).trans p').cons_inv;exact(q.trans<|this.cons _).trans q'.symm
theorem Ly(k v:Value):∀(l:List MapEntry) (i:Nat),(l.modify i<|qU k v).map (·.born)=l.map (·.born)
 |[],i=>by cases i<;>rfl
 |e::l,0=>rfl
 |e::l,i+1=>by rw[List.modify_succ_cons];simp[Ly k v l i]
theorem sL.modify(h:sL l aO)(k v:Value)(i:Nat):sL (l.modify i<|qU k v) aO:=by refine⟨by rw[Ly];exact h.1,fun e he=>?_⟩;have:e.born∈(l.modify i<|qU k v).map (·.born):=List.mem_map_of_mem he;rw[Ly] at this;obtain⟨e2,h2,h3⟩:=List.mem_map.1 this;rw[←h3];exact h.2 e2 h2
theorem sL.push(h:sL l aO)(he:e.born=aO):sL (l++[e])<|aO+1:=by
 refine⟨?_,fun e2 h2=>?_⟩
 ·rw[List.map_append,List.nodup_append];refine⟨h.1,by simp,fun a ha b hb=>?_⟩;simp only[List.map_cons,List.map_nil,List.mem_singleton] at hb;obtain⟨e2,h2,h3⟩:=List.mem_map.1 ha;have:=h.2 e2 h2;omega
 ·rcases List.mem_append.1 h2 with h2|h2
  ·have:=h.2 e2 h2;omega
  ·simp only[List.mem_singleton] at h2;subst h2;omega
section
variable {P:Program} {B:aJ} {ρ:aw} {w:World} {s s1:AS} {x:AV} {Ye:aI} {t:Tr AV} {ev:Operand->Value} {o:Oper}
theorem Cu{w:World}{b:Nat}{o o':Obj}(hb:w.heap[b]? =some o):
 wX b w {w with heap:=w.heap.setIfInBounds b o'}/\({w with heap:=w.heap.setIfInBounds b o'}:World).heap[b]? =some o':=by
 refine⟨⟨rfl,rfl,rfl,by simp,fun k hk=>?_⟩,?_⟩
 ·show(w.heap.setIfInBounds b o')[k]? =w.heap[k]?;rw[Array.getElem?_setIfInBounds_ne aj]
 ·show(w.heap.setIfInBounds b o')[b]? =some o';exact Array.getElem?_setIfInBounds_self_of_lt<|gR hb
theorem Zv{m val:AV}{vm:Value}{u:Unit}(hm:VR ρ m vm)(po:VR ρ key vk)(eP:VR ρ val vv)(fi:bx s)(r:Rel B ρ s.h w)(h:wV P ty m key val s= .ok u s1):
 s1.nx=s.nx/\∃w',(Instr.mapUpdate ty vm vk vv).run P w= .ok () w'/\Rel B ρ s1.h w'/\cH B w w':=by
 unfold wV at h;cases e1:P.underlying ty with
 |none=>simp only[e1] at h;cases h
 |some d=>
  cases d<;>simp only[e1] at h<;>first|(cases h;done)|skip
  rename_i k e;cases m<;>first|(cases h;done)|skip
  rename_i q;cases q with
  |none=>cases h
  |some n=>
   simp only[VR] at hm;obtain⟨b,N,hn,rfl⟩:=hm;obtain⟨ob,s2,h1,h2⟩:=M.aP h;obtain⟨hx,hg,hh,cM⟩:=fY h1;have ht:n<top:=Nat.lt_of_lt_of_le hx fi.nx;obtain⟨o',hb,hO,hB⟩:=r.block ht hg hn;cases ob with
   |map es aO=>
    obtain⟨h3,h4⟩:=cW h2;obtain⟨f,h5,h6⟩:=bt h4;obtain⟨l,rfl,C1,he⟩:=hO;obtain⟨kd,rU⟩:=LI h3;have vS:∀em,(Instr.checkKey em 10000 k vk).run P w= .ok () w:=fun em=>HJ h3 po;obtain⟨r',g1,g2⟩:=Rl (P:=P) (w:=w) rU po he.eqs h5;cases f with
    |some p=>
     obtain⟨j,y⟩:=p;obtain⟨z,q,e0,rfl,_,_,q1,q2,q3,_,_⟩:=g2;rw[Nat.sub_zero] at q1 q2;obtain⟨dy,h7,h8⟩:=bt (show(aA es[j]? fun dy=>aF (sameBits dy.1 key) <| bI n<|some<|.map (putAt es j key val) aO) s2= .ok u s1 from h6);obtain⟨h9,gE⟩:=cW h8;rw[q1] at h7;cases h7;have OG:=YI h9 q3 po 9999;obtain⟨_,_,_,i1,i2⟩:=kx gE;obtain⟨g3,g4⟩:=Cu (o':=.map (l.modify j<|qU vk vv) aO) hb;refine⟨by rw[i2,cM],_,?_,?_,g3.below<|hB rfl⟩
     ·have hl:l[j]? =some e0:=by simpa using q2
      simp only[Instr.mapUpdate,Sem.run_bind,dx e1,Result.andThen_ok,MapKept.run_getObj_map hb,vS,g1,hl,Option.map_some,Option.getD_some,Sg OG,MapKept.run_setObj_map _ hb];rfl
     ·rw[i1,hh];refine r.put ht hg rfl rfl hn rfl g3 g4 ⟨_,rfl,by rw[Q8];exact C1,?_⟩;rw[Array.toList_modify];exact he.put po eP
    |none=>
     have vL:r'=none:=g2;subst vL;obtain⟨_,_,_,i1,i2⟩:=kx (show bI n (some<|.map (es++[(key,val)])<|aO+1) s2= .ok u s1 from h6);obtain⟨g3,g4⟩:=Cu (o':=.map (l.push {key:=vk,val:=vv,born:=aO})<|aO+1) hb;refine⟨by rw[i2,cM],_,?_,?_,g3.below<|hB rfl⟩
     ·simp only[Instr.mapUpdate,Sem.run_bind,dx e1,Result.andThen_ok,MapKept.run_getObj_map hb,vS,g1,MapKept.run_setObj_map _ hb]
     ·rw[i1,hh];refine r.put ht hg rfl rfl hn rfl g3 g4 ⟨_,rfl,by simp[C1],?_⟩;rw[Array.toList_push];exact he.push po eP (by simp[C1])
   |jQ es=>
    obtain⟨h3,h4⟩:=cW h2;obtain⟨f,h5,h6⟩:=bt h4;obtain⟨hp,W9⟩:=and_true.1 h3;obtain⟨l,aO,rfl,ka,zO,l',hl,he⟩:=hO;obtain⟨kd,rU⟩:=LI W9;have vS:∀em,(Instr.checkKey em 10000 k vk).run P w= .ok () w:=fun em=>HJ W9 po;unfold findKey at h5;have hz:tW _=true:=U4 h5;simp only[hz] at h5;simp only[hp] at h5;obtain⟨f1,f2⟩:=Ro rU hp po ka he hl h5;cases f with
    |some p=>
     obtain⟨j,y⟩:=p;obtain⟨j',e0,a1,a2,a3,a4,q,a5,a6⟩:=f2 j y rfl;obtain⟨_,_,_,i1,i2⟩:=kx (show bI n (some<|.jQ<|putAt es j key val) s2= .ok u s1 from h6);obtain⟨g3,g4⟩:=Cu (o':=.map (l.modify j'<|qU vk vv) aO) hb;have hq:VR ρ q.1 e0.key:=by obtain⟨q',b1,b2,_⟩:=he.get a3;rw[a5] at b1;cases b1;exact b2
     have OG:Instr.sameBits 10000 e0.key vk=true:=LH (by rw[Ls];exact a6) hq po 10000;refine⟨by rw[i2,cM],_,?_,?_,g3.below<|hB rfl⟩
     ·have x8:l[j']? =some e0:=by simpa using a2
      simp only[Instr.mapUpdate,Sem.run_bind,dx e1,Result.andThen_ok,MapKept.run_getObj_map hb,vS,MapKept.run_findKey rU a1,x8,Option.map_some,Option.getD_some,Sg OG,MapKept.run_setObj_map _ hb];rfl
     ·rw[i1,hh];refine r.put ht hg rfl rfl hn rfl g3 g4 ⟨_,_,rfl,ka.put a5 a6,?_,l'.modify j<|qU vk vv,?_,he.put po eP⟩
      ·rw[Array.toList_modify];exact zO.modify _ _ _
      ·rw[Array.toList_modify];exact aag _ hl a2 a3
    |none=>
     obtain⟨_,_,_,i1,i2⟩:=kx (show bI n (some<|.jQ<|es++[(key,val)]) s2= .ok u s1 from h6);obtain⟨g3,g4⟩:=Cu (o':=.map (l.push {key:=vk,val:=vv,born:=aO})<|aO+1) hb;refine⟨by rw[i2,cM],_,?_,?_,g3.below<|hB rfl⟩
     ·simp only[Instr.mapUpdate,Sem.run_bind,dx e1,Result.andThen_ok,MapKept.run_getObj_map hb,vS,MapKept.run_findKey rU<|f1 rfl,MapKept.run_setObj_map _ hb]
     ·rw[i1,hh];refine r.put ht hg rfl rfl hn rfl g3 g4 ⟨_,_,rfl,ka.push<|Lm h5,?_,l'++[{key:=vk,val:=vv,born:=aO}],?_,dT.push (e:={key:=vk,val:=vv,born:=aO}) po eP he⟩
      ·rw[Array.toList_push];exact zO.push rfl
      ·rw[Array.toList_push];exact hl.append_right _
   |_=>cases h2
theorem Rp{a b c:Operand}(he:∀x v,aG t x=some v->VR ρ v (ev x))(fi:bx s)(r:Rel B ρ s.h w)(h:pZ P ty a b c Ye t s= .ok x s1)(ho:o.op= .mapUpdate ty a b c\/o.op= .insert ty a b c):ga P B ρ s s1 w x<|execOp ev o:=by unfold pZ at h;obtain⟨m,h1,h2⟩:=bt h;obtain⟨k,h3,h4⟩:=bt h2;obtain⟨v,h5,h6⟩:=bt h4;obtain⟨u,s2,h7,h8⟩:=M.aP h6;obtain⟨rfl,rfl⟩:=bD h8;obtain⟨a1,w',a2,a3,a4⟩:=Zv (P:=P) (he a m h1) (he b k h3) (he c v h5) fi r h7;refine⟨ρ,w',.skip,by rw[a1];exact Ext.refl _ _ _,?_,rfl,a3,a4⟩;rcases ho with ho|ho<;>simp[execOp,ho,a2]
end
end Go.Rn
namespace Go.Rn
open Go.RowKit
variable {y:Operand} {ty:TypeId} {es:List<|AV×AV} {b:Nat}
section
variable {P:Program} {B:aJ} {ρ:aw} {w:World} {s s1:AS} {x:AV} {Ye:aI} {t:Tr AV} {ev:Operand->Value} {o:Oper}
theorem kI.born:∀{es:List<|AV×AV} {l:List MapEntry} {n:Nat},kI ρ es l n->l.map (·.born)=List.range' n es.length
 |[],l,n,h=>by have h':l=[]:=h;subst h';rfl
 |p::es,l,n,h=>by obtain⟨e,l',rfl,a,b,c,d⟩:=h;rw[List.map_cons,c,d.born,List.length_cons,List.range'_succ]
theorem kI.U5{l:List MapEntry}(h:kI ρ es l 0):sL l es.length:=by have hb:=h.born;refine⟨by rw[hb];exact List.nodup_range',fun e he=>?_⟩;have:e.born∈l.map (·.born):=List.mem_map_of_mem he;rw[hb,List.mem_range'_1] at this;omega
theorem Rel.ahL{h:Tr ae}(r:Rel B ρ h w){n m:Nat}{p:ae}{N:Nat}{ex:Bool}{l:Array MapEntry}{aO:Nat}(Xa:n<top)(GN:ρ n=none)(pI:m<top)(hg:h.get m=some p)(hp:p.plain=true)(cw:p.di=false)(hm:ρ m=some (b,N))(hb:w.heap[b]? =some (.map l aO))(zO:sL l.toList aO)(h1:ex=true->aO=es.length/\kI ρ es l.toList 0)(h2:ex=false->lp es/\vK ρ es l.toList)(h3:vK ρ es l.toList):
 Rel B (eN ρ n (w.heap.size,1)) ((h.put m<|some .kB).put n<|some<|.iter m es ex es none) {w with heap:=w.heap.push<|.mapIter (some b) aO #[] aO}:=by
 have hl:ρ.le<|eN ρ n (w.heap.size,1):=oj GN;have rS:m≠n:=by intro e;subst e;rw[hm] at GN;cases GN
 have lY:h.get n=none:=by
  cases e:h.get n with
  |none=>rfl
  |some p=>obtain⟨_,_,_,h1,_⟩:=r.is n p Xa e;rw[GN] at h1;cases h1
 have g:∀k,k<top->((h.put m<|some .kB).put n<|some<|.iter m es ex es none).get k=if k=n then some (.iter m es ex es none) else if k=m then some .kB else h.get k:=by intro k hk;rw[Tr.dk _ _ _ _ Xa hk,Tr.dk _ _ _ _ pI hk]
 have hw:∀k,k<w.heap.size->(w.heap.push<|.mapIter (some b) aO #[] aO)[k]? =w.heap[k]? :=(gT.alloc w _).block;obtain⟨_,_,_,hB⟩:=r.block pI hg hm;have size:∀k q,k<top->h.get k=some q->∀b1 N1,ρ k=some (b1,N1)->b1<w.heap.size:=by intro k q hk hq b1 N1 e;obtain⟨b2,N2,o2,e1,e2,_⟩:=r.is k q hk hq;rw[e] at e1;cases e1;exact gR e2
 have dy:∀k q,k<top->(if k=m then some ae.kB else h.get k)=some q->∃q',h.get k=some q'/\(q.di=false->q'.di=false):=by
  intro k q hk hq;by_cases e:k=m
  ·subst e;exact⟨p,hg,fun _=>cw⟩
  ·rw[if_neg e] at hq;exact⟨q,hq,id⟩
 refine⟨?_,?_,?_,fun k hk=>r.size k<|Nat.le_trans iJ hk,?_,r.fz.of hl (fun b1 tZ _=>hw b1 tZ) (fun b1 tZ hn j q M hj hq gW e=>by
  rw[g j hj] at hq;by_cases a:j=n
  ·subst a;rw[iQ] at e;cases e;exact absurd tZ (Nat.lt_irrefl _)
  ·rw[if_neg a] at hq;rw[gJ ρ _ a] at e;obtain⟨q',e1,e2⟩:=dy j q hj hq;exact hn j q' M hj e1 (e2 gW) e),r.tk.of hl (fun j q hj hq xH=>by
  rw[g j hj] at hq;by_cases a:j=n
  ·rw[if_pos a] at hq;cases hq;cases xH
  ·rw[if_neg a] at hq;by_cases a2:j=m
   ·rw[if_pos a2] at hq;cases hq;cases xH
   ·rw[if_neg a2] at hq;exact hq) iJ (fun b1 tZ _=>hw b1 tZ) (fun b1 tZ hn j q M hj hq gW e=>by
  rw[g j hj] at hq;by_cases a:j=n
  ·subst a;rw[iQ] at e;cases e;exact absurd tZ (Nat.lt_irrefl _)
  ·rw[if_neg a] at hq;rw[gJ ρ _ a] at e;obtain⟨q',e1,e2⟩:=dy j q hj hq;exact hn j q' M hj e1 (e2 gW) e) (fun j x sh _ _ e=>by rw[gJ ρ _ (by have:=fZ j x sh;omega)];exact e)⟩
 ·intro k q hk hq;rw[g k hk] at hq;by_cases e:k=n
  ·subst e;rw[if_pos rfl] at hq;cases hq;refine⟨w.heap.size,1,.mapIter (some b) aO #[] aO,iQ _ _ _,by simp,?_,fun _=>r.size _<|Nat.le_refl _⟩;exact⟨b,N,aO, #[],hl _ _ hm,rfl⟩
  ·rw[if_neg e] at hq;by_cases e2:k=m
   ·subst e2;rw[if_pos rfl] at hq;cases hq;exact⟨b,N,_,hl _ _ hm,(hw b<|gR hb).trans hb,⟨l,aO,rfl⟩,fun _=>hB cw⟩
   ·rw[if_neg e2] at hq;obtain⟨b1,N1,o1,c1,c2,c3,c4⟩:=r.is k q hk hq;exact⟨b1,N1,o1,hl _ _ c1,(hw b1<|gR c2).trans c2,c3.mono hl,c4⟩
 ·intro k j q q' b1 N1 M1 hk hj hq dS cS e1 e2;rw[g k hk] at hq;rw[g j hj] at dS;by_cases a1:k=n
  ·by_cases a2:j=n
   ·omega
   ·rw[if_neg a2] at dS;subst a1;rw[iQ] at e1;cases e1;rw[gJ ρ _ a2] at e2;obtain⟨q2,GO,Xb⟩:=dy j q' hj dS;exact absurd (size j q2 hj GO _ _ e2)<|Nat.lt_irrefl _
  ·rw[if_neg a1] at hq;rw[gJ ρ _ a1] at e1;obtain⟨q1,Kw,hr1⟩:=dy k q hk hq;by_cases a2:j=n
   ·subst a2;rw[iQ] at e2;cases e2;exact absurd (size k q1 hk Kw _ _ e1)<|Nat.lt_irrefl _
   ·rw[if_neg a2] at dS;rw[gJ ρ _ a2] at e2;obtain⟨q2,GO,Xb⟩:=dy j q' hj dS;exact r.one k j q1 q2 b1 N1 M1 hk hj Kw GO (cS.imp hr1 Xb) e1 e2
 ·intro i m' g9 ju left cur hi hq;rw[g i hi] at hq;by_cases e:i=n
  ·subst e;rw[if_pos rfl] at hq;cases hq;refine⟨pI,by rw[g m pI,if_neg rS,if_pos rfl],?_⟩;refine⟨w.heap.size,1,b,N,l,aO, #[],iQ _ _ _,hl _ _ hm,by simp,(hw b<|gR hb).trans hb,zO,fun e=>⟨(h1 e).1,(h1 e).2.mono hl⟩,fun e=>⟨(h2 e).1,(h2 e).2.mono hl⟩,?_,rfl⟩;have:(l.toList.filter fun e=> !(#[]:Array Nat).contains e.born)=l.toList:=List.filter_eq_self.2 iJ;rw[this];exact h3.mono hl
  ·rw[if_neg e] at hq;by_cases e2:i=m
   ·subst e2;rw[if_pos rfl] at hq;cases hq
   ·rw[if_neg e2] at hq;obtain⟨eB,fC,b1,N1,bm,M,l1,aeq,seen,c1,c2,c3,c4,c5⟩:=r.iter i m' g9 ju left cur hi hq;have d1:m'≠n:=by intro e3;subst e3;rw[lY] at fC;cases fC
    refine⟨eB,?_,ox.mono hl ⟨b1,N1,bm,M,l1,aeq,seen,c1,c2,(hw b1<|gR c3).trans c3,(hw bm<|gR c4).trans c4,c5⟩⟩;rw[g m' eB,if_neg d1];by_cases d2:m'=m
    ·rw[if_pos d2]
    ·rw[if_neg d2];exact fC
 ·have new:∀i,i<top->∀zP zQ zd zu,(if i=m then some ae.kB else h.get i)≠some (.iter m zP zQ zd zu):=by
   intro i hi zP zQ zd zu hq;by_cases e:i=m
   ·rw[if_pos e] at hq;cases hq
   ·rw[if_neg e] at hq;obtain⟨_,fC,_⟩:=r.iter i m _ _ _ _ hi hq;rw[hg] at fC;cases fC;simp[ae.plain] at hp
  intro i j m' zP zQ zd zu Kx Ky JE J2 hi hj q1 q2;rw[g i hi] at q1;rw[g j hj] at q2;by_cases e:i=n
  ·by_cases e2:j=n
   ·omega
   ·rw[if_pos e] at q1;rw[if_neg e2] at q2;cases q1;exact absurd q2<|new j hj _ _ _ _
  ·rw[if_neg e] at q1;by_cases e2:j=n
   ·rw[if_pos e2] at q2;cases q2;exact absurd q1<|new i hi _ _ _ _
   ·rw[if_neg e2] at q2;by_cases e3:i=m
    ·rw[if_pos e3] at q1;cases q1
    ·rw[if_neg e3] at q1;by_cases e4:j=m
     ·rw[if_pos e4] at q2;cases q2
     ·rw[if_neg e4] at q2;exact r.lone i j m' _ _ _ _ _ _ _ _ hi hj q1 q2
theorem Y1{m:Option Nat}{c c':Nat}{seen:Array Nat}(hb:w.heap[b]? =some (.mapIter m c seen c')):(getObj b).run P w= .ok (.mapIter m c seen c') w:=by simp[getObj,Sem.run,hb]
theorem Y2{a:AV}{va:Value}(ha:VR ρ a va)(fi:bx s)(r:Rel B ρ s.h w)(hf:dE s.nx s1.nx ρ)(h:AI P ty a s= .ok x s1):jU P B ρ s s1 w x<|Instr.range ty va:=by
 unfold AI at h;cases e1:P.underlying ty with
 |none=>simp only[e1] at h;cases h
 |some d=>
  cases d<;>simp only[e1] at h<;>first|(cases h;done)|skip
  cases a<;>first|(cases h;done)|skip
  rename_i q;cases q with
  |none=>cases h
  |some m=>
   simp only[VR] at ha;obtain⟨b,N,hm,rfl⟩:=ha;obtain⟨ob,s2,h1,h2⟩:=M.aP h;obtain⟨hx,hg,hh,cM⟩:=fY h1;have pI:m<top:=Nat.lt_of_lt_of_le hx fi.nx;obtain⟨o',hb,hO,hB⟩:=r.block pI hg hm;have fin:∀(es:List<|AV×AV) (ex:Bool) (l:Array MapEntry) (aO:Nat),ob.plain=true->ob.di=false->w.heap[b]? =some (.map l aO)->sL l.toList aO->(ex=true->aO=es.length/\kI ρ es l.toList 0)->(ex=false->lp es/\vK ρ es l.toList)->vK ρ es l.toList->
    ((bI m<|some .kB).bind fun _=>(fh<|.iter m es ex es none).bind fun n=>M.pure<|.ptr<|some (n,0)) s2= .ok x s1->jU P B ρ s s1 w x (Instr.range ty<|.map<|some b):=by
    intro es ex l aO hp cw gm zO p1 p2 p3 h3;obtain⟨u,s3,h4,h5⟩:=M.aP h3;obtain⟨n,s4,h6,h7⟩:=M.aP h5;obtain⟨rfl,rfl⟩:=bD h7;obtain⟨_,_,_,i1,i2⟩:=kx h4;obtain⟨ht,rfl,rfl⟩:=uB h6;have e:s3.nx=s.nx:=i2.trans cM;have jh:ρ s3.nx=none:=hf s3.nx aj (Nat.lt_succ_self _) aj;refine⟨eN ρ s3.nx (w.heap.size,1),_,.pointer<|some ⟨w.heap.size,0,none⟩,?_,?_,?_,?_,(gT.alloc w<|.mapIter (some b) aO #[] aO).below r.size⟩
    ·rw[←e];exact Ext.mQ jh
    ·simp only[Instr.range,Sem.run_bind,dx e1,Result.andThen_ok,MapKept.run_getObj_map gm,Sem.run_pure,newObj,Sem.run]
    ·simp only[VR];exact⟨_,_,iQ _ _ _,rfl⟩
    ·show Rel B _ (s3.h.put s3.nx<|some<|.iter m es ex es none) _;rw[i1,hh];exact r.ahL ht jh pI hg hp cw hm gm zO p1 p2 p3
   cases ob with
   |map es aO=>obtain⟨l,rfl,C1,he⟩:=hO;exact fin es true l aO rfl rfl hb (by rw[C1];exact he.U5) (fun _=>⟨C1,he⟩) (fun e=>by cases e) ⟨_,List.Perm.refl _,he.eqs⟩ h2
   |jQ es=>obtain⟨l,aO,rfl,ka,zO,he⟩:=hO;exact fin es false l aO rfl rfl hb zO (fun e=>by cases e) (fun _=>⟨ka,he⟩) he h2
   |_=>cases h2
theorem Zw(he:∀x v,aG t x=some v->VR ρ v (ev x))(fi:bx s)(r:Rel B ρ s.h w)(hf:dE s.nx s1.nx ρ)(h:A5 P ty y Ye t s= .ok x s1)(ho:o.op= .range ty y):ga P B ρ s s1 w x<|execOp ev o:=by unfold A5 at h;obtain⟨a,h1,h2⟩:=bt h;have:=(Y2 (P:=P) (he y a h1) fi r hf h2).op;simpa only[execOp,ho] using this
theorem find_born{e:MapEntry}:∀{l:List MapEntry},(l.map (·.born)).Nodup->e∈l->l.find? (·.born == e.born)=some e
 |[],_,h=>by cases h
 |a::l,hn,h=>by
  rw[List.map_cons,List.nodup_cons] at hn;rcases List.mem_cons.1 h with rfl|h
  ·simp
  ·have:(a.born == e.born)=false:=by rw[beq_eq_false_iff_ne];intro q;exact hn.1 (by rw[q];exact List.mem_map_of_mem h)
   rw[List.find?_cons,this];exact find_born hn.2 h
theorem Zx(he:∀x v,aG t x=some v->VR ρ v (ev x))(fi:bx s)(r:Rel B ρ s.h w)(h:A6 y Ye t s= .ok x s1)(ho:o.op= .entry y):ga P B ρ s s1 w x<|execOp ev o:=by
 unfold A6 at h;obtain⟨a,h1,h2⟩:=bt h;have ha:=he y a h1;unfold CP at h2;split at h2
 ·rename_i n;obtain⟨ob,s2,h3,h4⟩:=M.aP h2;obtain⟨hx,hg,hh,cM⟩:=fY h3;have ht:n<top:=Nat.lt_of_lt_of_le hx fi.nx;split at h4
  ·rename_i m es ex left k v;obtain⟨rfl,rfl⟩:=bD h4;obtain⟨_,_,b,N,bm,M,l,aO,seen,c1,c2,c3,c4,c5,_,_,_,c9⟩:=r.iter n m es ex left _ ht hg;obtain⟨e,d1,d2,d3,d4⟩:=c9;simp only[VR] at ha;obtain⟨b',N',q1,q2⟩:=ha;rw[c1] at q1;cases q1;refine⟨ρ,w,.value<|.tuple #[e.key,e.val],by rw[cM];exact Ext.refl _ _ _,?_,?_,by rw[hh];exact r,cH.refl _ _⟩
   ·have hf:l.find? (·.born == e.born)=some e:=by rw[←Array.find?_toList];exact find_born c5.1 d1
    simp only[execOp,ho,q2,Instr.entry,Sem.run_bind,Y1 c3,Result.andThen_ok,d2,MapKept.run_getObj_map c4,bne_self_eq_false,Bool.false_eq_true,if_false,hf,Sem.run_pure]
   ·simp only[VR,ay];exact⟨_,rfl,_,_,rfl,d3,_,_,rfl,d4,rfl⟩
  ·cases h4
 ·cases h2
theorem YJ(he:∀x v,aG t x=some v->VR ρ v (ev x))(fi:bx s)(r:Rel B ρ s.h w)(h:CD y Ye t s= .ok x s1)(ho:o.op= .next y true):ga P B ρ s s1 w x<|execOp ev o:=by have h':(R.bad:R AV)= .ok x s1:=h;cases h'
end
end Go.Rn
namespace Go.Rn
open Go.RowKit
variable {y:Operand} {ts:Array TypeId} {args:Array Operand}
def aer(P:Program)(l:Nat)(f:FuncId)(tmps:Array Value)(assign body:Code)(w:World)(R:Value->World->Prop):Prop:=∀(c:Frame) (cs:List Frame),∃v w',R v w'/\Steps P (lone (Frame.round l f tmps assign body .normal) (c::cs) w) (lone (c.finish v) cs w')
def jo(P:Program)(r:Result Next)(R:Value->World->Prop):Prop:=
 match r with
 | .ok (.value v) w=>R v w
 | .ok .skip w=>R undef w
 | .ok (.enter f args) w=>Calls P f args w fun e w'=>∃v,e= .returned v/\R v w'
 | .ok (.round l f tmps assign body) w=>aer P l f tmps assign body w R
 |_=>False
def kh(B:aJ)(ρ:aw)(s s1:AS)(w:World)(x:AV):Value->World->Prop:=fun v w'=>∃σ,Ext s.nx s1.nx ρ σ/\VR σ x v/\Rel B σ s1.h w'/\cH B w w'
structure fQ (P:Program) (B:aJ) (Ye:aI):Prop where
 fn:∀(f:FuncId) (args:List AV) (x:AV) (s s1:AS) (ρ:aw) (w:World) (vs:Array Value),bx s->Rel B ρ s.h w->gd ρ->dE s.nx s1.nx ρ->Ye (.fn f) args s= .ok x s1->ay ρ args vs.toList->
  jo P ((callFunc f vs).run P w) (kh B ρ s s1 w x)
 round:∀(l b N:Nat) (args:List AV) (x:AV) (s s1:AS) (ρ:aw) (w:World) (vs:Array Value),bx s->Rel B ρ s.h w->gd ρ->dE s.nx s1.nx ρ->Ye (.round l) args s= .ok x s1->ay ρ args vs.toList->
  ρ l=some (b,N)->jo P ((Instr.yield b vs).run P w) (kh B ρ s s1 w x)
 row:A7 B Ye
section
variable {P:Program} {B:aJ} {ρ:aw} {w:World} {s s1:AS} {x:AV} {Ye:aI} {t:Tr AV} {ev:Operand->Value} {o:Oper}
theorem ga.back{c:Sem Next}(h:ga P B ρ s s1 w x c):jo P (c.run P w)<|kh B ρ s s1 w x:=by
 obtain⟨σ,w',nv,a,b,d,e,f⟩:=h;rw[b];cases nv<;>first|(cases d;done)|skip
 ·exact⟨σ,a,d,e,f⟩
 ·exact⟨σ,a,by rw[d];exact VR.undef σ,e,f⟩
theorem VR.S9{f:Fn}{a c:List AV}{v:Value}(h:VR ρ (.func f a c) v):T1 f=true/\∃p q,v= .func f p q/\ay ρ a p.toList/\ay ρ c q.toList:=by simpa only[VR] using h
theorem aah(hc:fQ P B Ye)(he:∀x v,aG t x=some v->VR ρ v (ev x))(hg:gd ρ)(fi:bx s)(r:Rel B ρ s.h w)(hf:dE s.nx s1.nx ρ)(h:tj y args.toList Ye t s= .ok x s1)(ho:o.op= .call ⟨.value y,args,ts⟩):jo P ((execOp ev o).run P w)<|kh B ρ s s1 w x:=by
 unfold tj at h;obtain⟨l,h1,h2⟩:=bt h;obtain⟨f,h3,h4⟩:=bt h2;have hl:=Fc he h1;have x9:=he y f h3;unfold mX at h4;split at h4
 ·rename_i g first captured
  obtain⟨_,p,q,e,hp,hq⟩:=x9.S9;have OH:ay ρ (first++l++captured) (p++args.map ev++q).toList:=by rw[Array.toList_append,Array.toList_append];exact(hp.append<|by simpa using hl).append hq
  have:=hc.fn g _ x s s1 ρ w _ fi r hg hf h4 OH;simp only[execOp,ho,resolve,Deferred.ofValue,e,Sem.run_bind,Sem.run_pure,Result.andThen_ok,invoke];exact this
 ·rename_i n;have iL:=x9;simp only[VR] at iL;obtain⟨b,N,hn,e⟩:=iL;have:=hc.round n b N _ x s s1 ρ w (args.map ev) fi r hg hf h4 (by simpa using hl) hn;simp only[execOp,ho,resolve,Deferred.ofValue,e,Sem.run_bind,Sem.run_pure,Result.andThen_ok,invoke];simpa using this
 ·cases h4
theorem Y3{name:String}(hc:fQ P B Ye)(he:∀x v,aG t x=some v->VR ρ v (ev x))(hg:gd ρ)(fi:bx s)(r:Rel B ρ s.h w)(hf:dE s.nx s1.nx ρ)(h:Np P y name args.toList Ye t s= .ok x s1)(ho:o.op= .call ⟨.invoke y name,args,ts⟩):jo P ((execOp ev o).run P w)<|kh B ρ s s1 w x:=by have h':(R.bad:R AV)= .ok x s1:=h;cases h'
end
end Go.Rn
namespace Go.Rn
open Go.RowKit
section
variable {P:Program} {B:aJ} {ρ:aw} {w:World} {s s1:AS} {x:AV} {Ye:aI} {t:Tr AV} {o:Oper}
theorem aes{a:Act}{nt:Nat}(hc:fQ P B Ye)(hl:∀t a,Yd<|Ye t a)(ht:TR ρ nt t a.tmps)(hg:gd ρ)(fi:bx s)(r:Rel B ρ s.h w)(hf:dE s.nx s1.nx ρ)(h:(dG P o.op).val Ye t s= .ok x s1):
 (∀c,o.op≠ .defer c)/\jo P ((execOp a.eval o).run P w) (kh B ρ s s1 w x):=by
 have he:∀x v,aG t x=some v->VR ρ v (a.eval x):=fun x v=>Fl ht hg;cases eU:o.op
 all_goals rw[eU] at h
 case move y=>exact⟨by simp,(Sc (Ye:=Ye) he r h<|.inl eU).back⟩
 case assign y=>exact⟨by simp,(Sc (Ye:=Ye) he r h<|.inr eU).back⟩
 case pick c p q=>exact⟨by simp,(aab (Ye:=Ye) he r h eU).back⟩
 case alloc e=>exact⟨by simp,(Zi (Ye:=Ye) (t:=t) r hf h eU).back⟩
 case box e y=>exact⟨by simp,(abj (Ye:=Ye) he r hf h eU).back⟩
 case build ty parts=>exact⟨by simp,(Zl (Ye:=Ye) he r h eU).back⟩
 case buildSlice ty len parts=>exact⟨by simp,(Yf (Ye:=Ye) he r hf h eU).back⟩
 case load ty y=>exact⟨by simp,(aac (Ye:=Ye) hc.row he fi r h eU).back⟩
 case store ty y z=>exact⟨by simp,(Zj (Ye:=Ye) he fi r h eU).back⟩
 case nilCheck y=>exact⟨by simp,(Yp (Ye:=Ye) he r h eU).back⟩
 case binOp op ty y z u=>exact⟨by simp,(abk (Ye:=Ye) he r h eU).back⟩
 case unOp op ty y=>exact⟨by simp,(acJ (Ye:=Ye) he r h eU).back⟩
 case convert src dst y=>exact⟨by simp,(YC (Ye:=Ye) he fi r h eU).back⟩
 case makeInterface ty y=>exact⟨by simp,(ajf (Ye:=Ye) he r h eU).back⟩
 case makeFunc fn first captured=>exact⟨by simp,(Yq (Ye:=Ye) he r h eU).back⟩
 case makeMap ty y=>exact⟨by simp,(YD (Ye:=Ye) he r hf h eU).back⟩
 case makeSlice ty l c=>exact⟨by simp,(Yl (Ye:=Ye) he r hf h eU).back⟩
 case slice ty y lo hi mx=>exact⟨by simp,(Zq (Ye:=Ye) he r h eU).back⟩
 case fieldAddr ty y f=>exact⟨by simp,(Yj (Ye:=Ye) he r h eU).back⟩
 case field ty y f=>exact⟨by simp,(Zo (Ye:=Ye) he r h eU).back⟩
 case indexAddr ty y z=>exact⟨by simp,(Yk (Ye:=Ye) he r h eU).back⟩
 case index ty y z=>exact⟨by simp,(Zp (Ye:=Ye) he r h eU).back⟩
 case lookup ty y z ok=>exact⟨by simp,(Y0 (Ye:=Ye) he fi r h eU).back⟩
 case mapUpdate ty m k y=>exact⟨by simp,(Rp (Ye:=Ye) he fi r h<|.inl eU).back⟩
 case insert ty m k y=>exact⟨by simp,(Rp (Ye:=Ye) he fi r h<|.inr eU).back⟩
 case typeAssert y xt asserted ok=>exact⟨by simp,(YW (Ye:=Ye) he r h eU).back⟩
 case range ty y=>exact⟨by simp,(Zw (Ye:=Ye) he fi r hf h eU).back⟩
 case entry y=>exact⟨by simp,(Zx (Ye:=Ye) he fi r h eU).back⟩
 case next y PW=>
  cases PW with
  |true=>exact⟨by simp,(YJ (Ye:=Ye) he fi r h eU).back⟩
  |false=>exact absurd (show(fail:M AV) s= .ok x s1 from h) (by intro e;cases e)
 case extract y i=>exact⟨by simp,(YE (Ye:=Ye) he r h eU).back⟩
 case call c=>
  obtain⟨callee,args,ts⟩:=c;cases callee with
  |builtin b=>exact⟨by simp,(YH (Ye:=Ye) hc.row hl he fi r hf h eU).back⟩
  |value f=>exact⟨by simp,aah hc he hg fi r hf h eU⟩
  |invoke recv name=>exact⟨by simp,Y3 hc he hg fi r hf h eU⟩
 all_goals (exact absurd (show(fail:M AV) s= .ok x s1 from h) (by intro e;cases e))
end
end Go.Rn
