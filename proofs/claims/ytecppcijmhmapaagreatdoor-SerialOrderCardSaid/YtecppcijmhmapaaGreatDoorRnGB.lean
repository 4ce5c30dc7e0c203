import Derived.Test.YtecppcijmhmapaaGreatDoorRnGA
import Derived.IntWalk
import Derived.MapKept
import Derived.AtR
import Derived.Orders
import Derived.RangeFuncIn
import Derived.RangeFuncLeaves
import GoSem.Extern.MapsClone
import Derived.Maps.RangeRun
set_option maxRecDepth 100000
set_option maxHeartbeats 8000000
set_option linter.unusedSimpArgs false
set_option linter.unusedVariables false
namespace Go.Rn
open Go.RowKit
section
variable {P:Program} {B:aH} {ρ:aj} {w:World} {s s1:AS} {x:AV} {U7:aJ} {t:Tr AV} {ev:Operand->Value} {o:Oper}
def jx(ρ:aj):Option AV->Option Value->Prop
 |none,v=>v=none
 |some a,v=>∃u,v=some u/\VR ρ a u
theorem Dj(he:∀x v,ar t x=some v->VR ρ v (ev x)){y:Option Operand}{a:Option AV}(h:opt (ar t) y=some a):jx ρ a<|y.map ev:=by
 cases y with
 |none=>simp only[opt] at h;injection h with h;subst h;rfl
 |some y=>
  simp only[opt] at h;cases e:ar t y with
  |none=>rw[e] at h;cases h
  |some v=>simp only[e] at h;injection h with h;subst h;exact⟨_,rfl,he y v e⟩
theorem wR{a:AV}{v:Value}{lz real n d:Nat}{code:BoundsCode}(ha:VR ρ a v)(h:bound (some a) lz d=some n)(hr:lz<=real):(Instr.sliceBound v real code).run P w= .ok n w/\n<=lz:=by
 unfold bound at h;cases e:intOf a with
 |none=>simp only[e] at h;cases h
 |some i=>simp only[e] at h;obtain⟨k,_,rfl⟩:=ha.uO e;obtain⟨rfl,hn⟩:=p7 h;have hr:(0:Int)<=(n:Int)/\(n:Int)<=(real:Int):=⟨by omega,by omega⟩;refine⟨?_,by omega⟩;simp only[Instr.sliceBound,asIntOf,Sem.run_bind,Sem.run_pure,Result.andThen_ok,if_pos hr,Int.toNat_natCast]
theorem p8{b:Bool}{lo hi:Option AV}{iz bR:Option Value}{len low real hh l:Nat}(h1:jx ρ lo iz)(h2:jx ρ hi bR)(hr:low<=real)(e1:bound hi low len=some hh)(e2:bound lo hh 0=some l):
 (Instr.sliceBounds b len real iz bR none).run P w= .ok (l,hh,real) w/\(hi=none/\hh=len\/hh<=low)/\l<=hh:=by
 have g1:∃c,(match bR,(none:Option Value) with
  |some v,some _=>Instr.sliceBound v real .slice3B
  |some v,none=>Instr.sliceBound v real c
  |none,none=>pure len
  |none,some _=>stuck "Slice: max without high" :Sem Nat).run P w= .ok hh w/\c=(if b then BoundsCode.sliceAcap else .sliceAlen)/\(hi=none/\hh=len\/hh<=low):=by
  cases hi with
  |none=>
   simp only[jx] at h2;subst h2;simp only[bound] at e1;injection e1 with e1;subst e1
   exact⟨_,rfl,rfl,.inl ⟨rfl,rfl⟩⟩
  |some a=>obtain⟨u,rfl,hu⟩:=h2;obtain⟨a1,a2⟩:=wR (P:=P) (w:=w) (code:=if b then BoundsCode.sliceAcap else .sliceAlen) hu e1 hr;exact⟨_,a1,rfl,.inr a2⟩
 obtain⟨c,g1,rfl,g2⟩:=g1;have g3:(match iz with
  |some v=>Instr.sliceBound v hh (if(none:Option Value).isSome then BoundsCode.slice3C else .sliceB)
  |none=>pure 0:Sem Nat).run P w= .ok l w/\l<=hh:=by
  cases lo with
  |none=>
   simp only[jx] at h1;subst h1;simp only[bound] at e2;injection e2 with e2;subst e2
   exact⟨rfl,Nat.zero_le _⟩
  |some a=>obtain⟨u,rfl,hu⟩:=h1;exact wR (P:=P) (w:=w) hu e2<|Nat.le_refl _
 refine⟨?_,g2,g3.2⟩;cases bR<;>cases iz<;>simp_all [Instr.sliceBounds]
theorem GC{b:Bool}{lo:Option AV}{iz bR tN:Option Value}{len low real hh l m:Nat}{a c:AV}(h1:jx ρ lo iz)(h2:jx ρ (some a) bR)(h3:jx ρ (some c) tN)(hr:low<=real)(e0:bound (some c) low 0=some m)(e1:bound (some a) m 0=some hh)(e2:bound lo hh 0=some l):
 (Instr.sliceBounds b len real iz bR tN).run P w= .ok (l,hh,m) w/\l<=hh/\hh<=m/\m<=low:=by
 obtain⟨u,rfl,hu⟩:=h2;obtain⟨v,rfl,hv⟩:=h3;have q0:=fun code=>wR (P:=P) (w:=w) (code:=code) hv e0 hr;have q1:=fun code=>wR (P:=P) (w:=w) (code:=code) hu e1<|Nat.le_refl _;cases lo with
 |none=>
  simp only[jx] at h1;subst h1;simp only[bound] at e2;injection e2 with e2;subst e2
  refine⟨?_,Nat.zero_le _,(q1 .slice3B).2,(q0 .slice3B).2⟩;simp[Instr.sliceBounds,(q0 _).1,(q1 _).1]
 |some y=>obtain⟨z,rfl,hz⟩:=h1;have q2:=fun code=>wR (P:=P) (w:=w) (code:=code) hz e2<|Nat.le_refl _;refine⟨?_,(q2 .slice3B).2,(q1 .slice3B).2,(q0 .slice3B).2⟩;simp[Instr.sliceBounds,(q0 _).1,(q1 _).1,(q2 _).1]
theorem B1{ty e:TypeId}{v:Value}{lo hi mx:Option Value}(h:P.underlying ty=some (.slice e)):(Instr.sliceAt ty v lo hi mx).run P w=(Instr.slice ty v lo hi mx).run P w:=by simp[Instr.sliceAt,aV h]
theorem Ma{ty:TypeId}{v:Value}{lo hi mx:Option Value}(h:P.underlying ty=some .string):(Instr.sliceAt ty v lo hi mx).run P w=(Instr.slice ty v lo hi mx).run P w:=by simp[Instr.sliceAt,aV h]
theorem MK{ty : TypeId}{a:AV}{v:Value}{lo hi mx:Option AV}{iz bR tN:Option Value}(ha:VR ρ a v)(h1:jx ρ lo iz)(h2:jx ρ hi bR)(h3:jx ρ mx tN)(h:lW P ty a lo hi mx=some x):
    ∃q,(Instr.sliceAt ty v iz bR tN).run P w= .ok q w/\VR ρ x q:=by
  unfold lW at h
  split at h<;>first|(cases h;done)|skip
  · 
    rename_i st e1
    simp only[VR] at ha;subst ha
    cases mx with
    |some _=>cases h
    | none=>
      simp only[jx] at h3;subst h3
      simp only[] at h
      cases e2:bound hi st.size st.size with
      |none=>simp only[e2] at h;cases h
      | some hh=>
        simp only[e2] at h
        cases e3:bound lo hh 0 with
        |none=>simp only[e3] at h;cases h
        | some l=>
          simp only[e3] at h;injection h with h;subst h
          obtain⟨g1,g2,g3⟩:=p8 (P:=P) (w:=w) (b:=false) h1 h2 (Nat.le_refl _) e2 e3
          refine⟨.string<|st.extract l hh,?_,by simp[VR]⟩
          rw[Ma e1]
          simp[Instr.slice,aV e1,g1]
  · 
    rename_i e p len cap e1
    cases ek:cd P e with
    |none=>simp only[ek] at h;cases h
    | some k=>
      simp only[ek] at h
      rw[B1 e1]
      have hv:∃q real,v= .slice q len real/\fA len cap<=real/\len<=real\/∃q real,v= .slice q len real/\cap= .known real:=by
        cases p with
        |none=>obtain⟨rfl,rfl,rfl⟩:=gy ha;exact⟨none,0,.inr ⟨none,0,rfl,rfl⟩⟩
        | some p=>
          obtain⟨n,i⟩:=p
          cases cap with
          |known c=>simp only[VR] at ha;obtain⟨b,N,_,rfl⟩:=ha;exact⟨none,0,.inr ⟨_,c,rfl,rfl⟩⟩
          |aU b0 e0=>simp only[VR] at ha;obtain⟨b,N,c,_,rfl,h5,h6,_⟩:=ha;exact⟨_,c,.inl ⟨rfl,h5,h6⟩⟩
          |lost=>simp only[VR] at ha;obtain⟨rfl,b,N,_,c,_,rfl⟩:=ha;exact⟨_,c,.inl ⟨rfl,by simp[fA],Nat.zero_le _⟩⟩
      clear hv
      cases mx with
      | some mx =>
        simp only[] at h
        have hl:cap≠ .lost:=by intro e2;subst e2;cases h
        have h':slice3 k p (fA len cap) lo hi mx=some x:=by
          cases cap<;>first|exact h|exact absurd rfl hl
        clear h
        unfold slice3 at h'
        cases e2:bound (some mx) (fA len cap) 0 with
        |none=>simp only[e2] at h';cases h'
        | some m=>
          simp only[e2] at h'
          cases hi with
          |none=>cases h'
          | some hi =>
            simp only[] at h'
            cases e3:bound (some hi) m 0 with
            |none=>simp only[e3] at h';cases h'
            | some hh=>
              simp only[e3] at h'
              cases e4:bound lo hh 0 with
              |none=>simp only[e4] at h';cases h'
              | some l=>
                simp only[e4] at h'
                cases p with
                | none=>
                  obtain⟨rfl,rfl,rfl⟩:=gy ha
                  simp only[] at h';injection h' with h';subst h'
                  obtain⟨g1,g2,g3,g4⟩:=GC (P:=P) (w:=w) (b:=true) (len:=0) (real:=0) h1 h2 h3 (Nat.le_refl _) e2 e3 e4
                  have Vp:m<=0:=g4
                  refine⟨.slice none 0 0,?_,?_⟩
                  · have z1:m=0:=by omega
                    have z2:hh=0:=by omega
                    have z3:l=0:=by omega
                    subst z1;subst z2;subst z3
                    simp[Instr.slice,aV e1,g1,dc ek]
                  · have z1:hh - l=0:=by omega
                    have z2:m - l=0:=by omega
                    rw[z1,z2];simp[VR]
                | some p=>
                  obtain⟨n,i⟩:=p
                  simp only[] at h'
                  have hv:∃b N real,ρ n=some (b,N)/\v= .slice (some ⟨b,i,none⟩) len real/\fA len cap<=real:=by
                    cases cap with
                    |known c=>simp only[VR] at ha;obtain⟨b,N,e5,rfl⟩:=ha;exact⟨b,N,c,e5,rfl,by simp[fA]⟩
                    |aU b0 e0=>simp only[VR] at ha;obtain⟨b,N,c,e5,rfl,h5,h6,_⟩:=ha;exact⟨b,N,c,e5,rfl,h5⟩
                    |lost=>exact absurd rfl hl
                  obtain⟨b,N,real,e5,rfl,Ri⟩:=hv
                  obtain⟨g1,g2,g3,g4⟩:=GC (P:=P) (w:=w) (b:=true) (len:=len) h1 h2 h3 Ri e2 e3 e4
                  cases e6:Nat.beq m l with
                  | true=>
                    simp only[e6] at h';injection h' with h';subst h'
                    have tO:=cC.1 e6
                    refine⟨.slice (some ⟨b,i,none⟩) (hh - l)<|m - l,?_,by simp only[VR];exact⟨b,N,e5,rfl⟩⟩
                    subst tO;simp[Instr.slice,aV e1,g1,dc ek]
                  | false=>
                    simp only[e6] at h';injection h' with h';subst h'
                    have bS:¬m=l:=by rw[←beq_eq,e6];simp
                    refine⟨.slice (some ⟨b,i+l*k,none⟩) (hh - l)<|m - l,?_,by simp only[VR];exact⟨b,N,e5,rfl⟩⟩
                    simp[Instr.slice,aV e1,g1,dc ek,bS,Addr.jk]
      | none=>
        simp only[jx] at h3;subst h3
        simp only[] at h
        cases e3:bound hi (fA len cap) len with
        |none=>simp only[e3] at h;cases h
        | some hh =>
          simp only[e3] at h
          cases e4:bound lo hh 0 with
          |none=>simp only[e4] at h;cases h
          | some l=>
            simp only[e4] at h
            cases p with
            | none=>
              obtain⟨rfl,rfl,rfl⟩:=gy ha
              simp only[] at h;injection h with h;subst h
              obtain⟨g1,g2,g3⟩:=p8 (P:=P) (w:=w) (b:=true) (len:=0) (real:=0) h1 h2 (Nat.le_refl _) e3 e4
              have z1:hh=0:=by rcases g2 with⟨_,e⟩|e<;>omega
              have z2:l=0:=by omega
              subst z1;subst z2
              refine⟨.slice none 0 0,?_,by simp[VR]⟩
              simp[Instr.slice,aV e1,g1,dc ek]
            | some p=>
              obtain⟨n,i⟩:=p
              cases cap with
              | known c=>
                simp only[] at h
                simp only[VR] at ha;obtain⟨b,N,e5,rfl⟩:=ha
                obtain⟨g1,g2,g3⟩:=p8 (P:=P) (w:=w) (b:=true) (len:=len) (real:=c) h1 h2 (by simp[fA]) e3 e4
                cases e6:Nat.beq c l with
                | true=>
                  simp only[e6] at h;injection h with h;subst h
                  have tO:=cC.1 e6
                  refine⟨.slice (some ⟨b,i,none⟩) (hh - l)<|c - l,?_,by simp only[VR];exact⟨b,N,e5,rfl⟩⟩
                  subst tO;simp[Instr.slice,aV e1,g1,dc ek]
                | false=>
                  simp only[e6] at h;injection h with h;subst h
                  have bS:¬c=l:=by rw[←beq_eq,e6];simp
                  refine⟨.slice (some ⟨b,i+l*k,none⟩) (hh - l)<|c - l,?_,by simp only[VR];exact⟨b,N,e5,rfl⟩⟩
                  simp[Instr.slice,aV e1,g1,dc ek,bS,Addr.jk]
              | aU b0 e0=>
                simp only[] at h
                simp only[VR] at ha;obtain⟨b,N,c,e5,rfl,h5,h6,h7⟩:=ha
                obtain⟨g1,g2,g3⟩:=p8 (P:=P) (w:=w) (b:=true) (len:=len) (real:=c) h1 h2 h5 e3 e4
                have To:hh<=c:=by
                  rcases g2 with⟨_,e⟩|e
                  · omega
                  · have e':hh<=b0:=e
                    omega
                cases e6:Nat.beq l 0 with
                | true=>
                  simp only[e6] at h;injection h with h;subst h
                  have tO:=cC.1 e6
                  refine⟨.slice (some ⟨b,i,none⟩) (hh - l)<|c - 0,?_,?_⟩
                  · subst tO;by_cases q:c=0
                    · subst q;simp[Instr.slice,aV e1,g1,dc ek]
                    · simp[Instr.slice,aV e1,g1,dc ek,q,Addr.jk]
                  · simp only[VR];exact⟨b,N,c,e5,rfl,h5,by omega,h7⟩
                | false =>
                  simp only[e6] at h
                  cases e7:(Nat.beq e0 k&&Nat.blt l b0) with
                  | true=>
                    simp only[e7] at h;injection h with h;subst h
                    obtain⟨q1,q2⟩:=and_true.1 e7
                    have q1:=cC.1 q1;subst q1
                    rw[blt_eq] at q2
                    have bS:¬c=l:=by omega
                    refine⟨.slice (some ⟨b,i+l*e0,none⟩) (hh - l)<|c - l,?_,?_⟩
                    · simp[Instr.slice,aV e1,g1,dc ek,bS,Addr.jk]
                    · simp only[VR]
                      refine⟨b,N,c - l,e5,rfl,by omega,by omega,?_⟩
                      have:l*e0+(c - l)*e0=c*e0:=by rw[←Nat.add_mul];congr 1;omega
                      omega
                  | false=>
                    simp only[e7] at h
                    cases e8:Nat.beq (hh - l) 0 with
                    |false=>simp only[e8] at h;cases h
                    | true=>
                      simp only[e8] at h;injection h with h;subst h
                      have z:=cC.1 e8
                      by_cases q:c=l
                      · refine⟨.slice (some ⟨b,i,none⟩) (hh - l)<|c - l,?_,?_⟩
                        · subst q;simp[Instr.slice,aV e1,g1,dc ek]
                        · simp only[VR];rw[z];exact⟨by first|rfl|trivial,b,N,_,_,e5,rfl⟩
                      · refine⟨.slice (some ⟨b,i+l*k,none⟩) (hh - l)<|c - l,?_,?_⟩
                        · simp[Instr.slice,aV e1,g1,dc ek,q,Addr.jk]
                        · simp only[VR];rw[z];exact⟨by first|rfl|trivial,b,N,_,_,e5,rfl⟩
              | lost=>
                simp only[] at h
                simp only[VR] at ha;obtain⟨rfl,b,N,j,c,e5,rfl⟩:=ha
                obtain⟨g1,g2,g3⟩:=p8 (P:=P) (w:=w) (b:=true) (len:=0) (real:=c) h1 h2 (by simp[fA]) e3 e4
                cases e6:Nat.beq hh 0 with
                |false=>simp only[e6] at h;cases h
                | true=>
                  simp only[e6] at h;injection h with h;subst h
                  have z:=cC.1 e6;subst z
                  have z:l=0:=by omega
                  subst z
                  refine⟨.slice (some ⟨b,j,none⟩) 0 c,?_,?_⟩
                  · by_cases q:c=0
                    · subst q;simp[Instr.slice,aV e1,g1,dc ek]
                    · simp[Instr.slice,aV e1,g1,dc ek,q,Addr.jk]
                  · simp only[VR];exact⟨trivial,b,N,_,_,e5,rfl⟩
  · -- a row that stays as it is
    rename_i e n i len e1
    cases ek:cd P e with
    |none=>simp only[ek] at h;cases h
    | some k=>
      simp only[ek] at h
      cases mx with
      |some _=>cases h
      | none=>
        simp only[jx] at h3;subst h3
        simp only[] at h
        cases e3:bound hi len len with
        |none=>simp only[e3] at h;cases h
        | some hh =>
          simp only[e3] at h
          cases e4:bound lo hh 0 with
          |none=>simp only[e4] at h;cases h
          | some l=>
            simp only[e4] at h
            cases e5:Nat.ble top n with
            |false=>simp only[e5] at h;cases h
            | true=>
              simp only[e5] at h;injection h with h;subst h
              have q1:=aK.1 e5
              simp only[VR] at ha
              rcases ha with⟨_,rfl,a0,c,rfl,hz⟩|⟨b,sh,c,e6,rfl,e7⟩
              · obtain⟨g1,g2,g3⟩:=p8 (P:=P) (w:=w) (b:=true) (len:=0) (real:=c) h1 h2 (Nat.zero_le c) e3 e4
                have zh:hh=0:=by rcases g2 with⟨_,e⟩|e<;>omega
                subst zh
                have zl:l=0:=by omega
                subst zl
                rw[B1 e1]
                cases a0 with
                |none=>exact⟨.slice none 0 c,by simp[Instr.slice,aV e1,g1,dc ek],by simp only[VR];exact .inl ⟨q1,trivial,none,c,rfl,hz⟩⟩
                | some a0=>
                  by_cases q:c=0
                  · subst q
                    exact⟨.slice (some a0) 0 0,by simp[Instr.slice,aV e1,g1,dc ek],by simp only[VR];exact .inl ⟨q1,trivial,some a0,0,rfl,hz⟩⟩
                  · exact⟨.slice (some<|a0.add 0) 0 c,by simp[Instr.slice,aV e1,g1,dc ek,q],by simp only[VR];exact .inl ⟨q1,trivial,_,c,rfl,(fun e=>by cases e),(fun e=>by cases hz.2.1 e),fun _ e=>by cases e⟩⟩
              have hc:=(e7 q1).1
              obtain⟨g1,g2,g3⟩:=p8 (P:=P) (w:=w) (b:=true) (len:=len) (real:=c) h1 h2 hc e3 e4
              have To:hh<=c:=by rcases g2 with⟨_,e⟩|e<;>omega
              rw[B1 e1]
              by_cases q:c=l
              · subst q
                refine⟨.slice (some ⟨b,sh+i,none⟩) (hh - c)<|c - c,by simp[Instr.slice,aV e1,g1,dc ek],?_⟩
                have z:hh - c=0:=by omega
                simp only[VR]
                exact .inl ⟨q1,z,some ⟨b,sh+i,none⟩,c - c,by rw[z],(fun e=>by cases e),(fun e=>absurd e (e7 q1).2),fun _ e=>by cases e⟩
              · refine⟨.slice (some ⟨b,sh+(i+l*k),none⟩) (hh - l)<|c - l,by simp[Instr.slice,aV e1,g1,dc ek,q,Addr.jk,Nat.add_assoc],?_⟩
                simp only[VR]
                exact .inr ⟨b,sh,c - l,e6,rfl,fun _=>⟨by omega,(e7 q1).2⟩⟩
  · -- an array,by its address
    rename_i len e n i e1
    cases ek:cd P e with
    |none=>simp only[ek] at h;cases h
    | some k=>
      simp only[ek] at h
      cases mx with
      |some _=>cases h
      | none=>
        simp only[jx] at h3;subst h3
        simp only[] at h
        cases e2:bound hi len len with
        |none=>simp only[e2] at h;cases h
        | some hh=>
          simp only[e2] at h
          cases e3:bound lo hh 0 with
          |none=>simp only[e3] at h;cases h
          | some l=>
            simp only[e3] at h
            simp only[VR] at ha;obtain⟨b,N,e5,rfl⟩:=ha
            obtain⟨g1,g2,g3⟩:=p8 (P:=P) (w:=w) (b:=false) h1 h2 (Nat.le_refl _) e2 e3
            cases e6:Nat.beq len l with
            | true=>
              simp only[e6] at h;injection h with h;subst h
              have tO:=cC.1 e6
              refine⟨.slice (some ⟨b,i,none⟩) (hh - l)<|len - l,?_,by simp only[VR];exact⟨b,N,e5,rfl⟩⟩
              subst tO;simp[Instr.sliceAt,aV e1,Instr.sureAddr,g1,dc ek]
            | false=>
              simp only[e6] at h;injection h with h;subst h
              have bS:¬len=l:=by rw[←beq_eq,e6];simp
              refine⟨.slice (some ⟨b,i+l*k,none⟩) (hh - l)<|len - l,?_,by simp only[VR];exact⟨b,N,e5,rfl⟩⟩
              simp[Instr.sliceAt,aV e1,Instr.sureAddr,g1,dc ek,bS,Addr.jk]
theorem Ni{ty:TypeId}{y:Operand}{lo hi mx:Option Operand}(he:∀x v,ar t x=some v->VR ρ v (ev x))(r:Rel B ρ s.h w)(h:lh P ty y lo hi mx U7 t s= .ok x s1)(ho:o.op= .slice ty y lo hi mx):dh P B ρ s s1 w x<|execOp ev o:=by unfold lh at h;obtain⟨a,h1,h2⟩:=bd h;obtain⟨iz,h3,h4⟩:=bd h2;obtain⟨bR,h5,h6⟩:=bd h4;obtain⟨tN,h7,h8⟩:=bd h6;obtain⟨h9,rfl⟩:=dt h8;obtain⟨q,g1,g2⟩:=MK (P:=P) (w:=w) (he y a h1) (Dj he h3) (Dj he h5) (Dj he h7) h9;exact⟨ρ,w,.value q,Ext.refl _ _ _,by simp[execOp,ho,g1],g2,r,bp.refl _ _⟩
end
end Go.Rn
namespace Go.Rn
open Go.RowKit
theorem Rel.Jp{B:aH}{ρ:aj}{h:Tr U}{w w':World}(r:Rel B ρ h w){n:Nat}{p:U}{b N:Nat}(ht:n<top)(hg:h.get n=some p)(hp:p.plain=true)(cn:p.bQ=false)(hr:ρ n=some (b,N))(hw:o7 b w w'):
 Rel B ρ (h.put n none) w'/\∀m q,m<top->(h.put n none).get m=some q->∀M,ρ m≠some (b,M):=by
 have g:∀m,m<top->(h.put n none).get m=if m=n then none else h.get m:=fun m hm=>Tr.cV _ _ _ _ ht hm
 have iZ:∀m q,m<top->(h.put n none).get m=some q->∀M,ρ m≠some (b,M):=by
  intro m q hm hq M e;rw[g m hm] at hq;by_cases e2:m=n
  ·rw[if_pos e2] at hq;cases hq
  ·rw[if_neg e2] at hq;exact e2<|r.one m n q p b M N hm ht hq hg (.inr cn) e hr
 refine⟨?_,iZ⟩;have hl:h.get n≠some .fp:=by intro e;rw[hg] at e;cases e;simp[U.plain] at hp
 have r2:=r.drop ht hl;refine⟨?_,r2.one,?_,by rw[hw.size];exact r.size,r2.lone,r.fz.of (aj.le_refl _) (fun b1 _ hn=>hw.block b1 fun e=>hn n p N ht hg cn (by rw[e];exact hr)) (fun b1 _ hn=>hn.sub fun m q hm hq dm=>by
  rw[g m hm] at hq;by_cases e:m=n
  ·rw[if_pos e] at hq;cases hq
  ·rw[if_neg e] at hq;exact⟨q,hq,dm⟩),r.tk.of (aj.le_refl _) (fun m q hm hq _=>by
  rw[g m hm] at hq;by_cases e:m=n
  ·rw[if_pos e] at hq;cases hq
  ·rw[if_neg e] at hq;exact hq) (by rw[hw.size];exact Nat.le_refl _) (fun b1 _ hn=>hw.block b1 fun e=>hn n p N ht hg cn (by rw[e];exact hr)) (fun b1 _ hn=>hn.sub fun m q hm hq dm=>by
  rw[g m hm] at hq;by_cases e:m=n
  ·rw[if_pos e] at hq;cases hq
  ·rw[if_neg e] at hq;exact⟨q,hq,dm⟩) fun _ _ _ _ _ e=>e⟩
 ·intro m q hm hq;obtain⟨b1,N1,o1,h1,h2,h3,h4⟩:=r2.is m q hm hq;exact⟨b1,N1,o1,h1,(hw.block b1 fun e=>iZ m q hm hq N1<|by rw[h1,e]).trans h2,h3,h4⟩
 ·intro i m es ex left cur hi hq;obtain⟨hm,dO,u⟩:=r2.iter i m es ex left cur hi hq;exact⟨hm,dO,u.nq hw.block (iZ i _ hi hq)<|iZ m _ hm dO⟩
section
variable {P:Program} {B:aH} {ρ:aj} {w:World} {s s1:AS} {x:AV} {U7:aJ} {t:Tr AV} {ev:Operand->Value} {o:Oper}
theorem G3{n:Nat}(h:n<2 ^ 63):IntKind.i64.wrap (n:Int)=n:=by exact IntWalk.i64_in _ (by omega)
theorem Mh{ty:TypeId}{l c:AV}{vl vc:Value}(hl:VR ρ l vl)(hc:VR ρ c vc)(r:Rel B ρ s.h w)(hf:bL s.nx s1.nx ρ)(h:makeSlice P ty l c s= .ok x s1):eK P B ρ s s1 w x<|Instr.makeSlice ty vl vc:=by
 unfold makeSlice at h;cases e1:P.underlying ty with
 |none=>simp only[e1] at h;cases h
 |some d=>
  cases d<;>simp only[e1] at h<;>first|(cases h;done)|skip
  rename_i e;obtain⟨il,h1,h⟩:=bd h;obtain⟨ic,h2,h⟩:=bd h;obtain⟨i,h3,h⟩:=bd h;obtain⟨nc,h4,h⟩:=bd h;obtain⟨nl,h5,h⟩:=bd h;obtain⟨z,h6,h⟩:=bd h;obtain⟨h7,h⟩:=bP h;obtain⟨n,s2,h8,h9⟩:=M.aL h;obtain⟨rfl,rfl⟩:=aQ h9;obtain⟨q1,q2⟩:=and_true.1 h7;obtain⟨q3,q4⟩:=and_true.1 q2;obtain⟨q5,q6⟩:=and_true.1 q4;have q1:=aK.1 q1;have q3:=aK.1 q3;obtain⟨k1,_,rfl⟩:=hl.uO h1;obtain⟨k2,_,rfl⟩:=hc.uO h2;obtain⟨rfl,pM⟩:=p7 h4;obtain⟨rfl,kO⟩:=p7 h5;unfold room at pM q1;obtain⟨vz,g1,g2⟩:=rF (P:=P) (w:=w) ρ h6;obtain⟨ht,rfl,rfl⟩:=kX h8;have eG:ρ s.nx=none:=hf s.nx (Nat.le_refl _) (Nat.lt_succ_self _) (by omega);have hz:=g2.cells.length;simp only[Array.length_toList] at hz;have qw:(Array.range<|nc*i.size).map (fun j=>(if nc*i.size=0 then(#[]:Array Value) else vz.cells)[j % (if nc*i.size=0 then(#[]:Array Value) else vz.cells).size]!)=(Array.range<|nc*i.size).map (fun j=>vz.cells[j % vz.cells.size]!):=by
   by_cases q:nc*i.size=0
   ·rw[q];simp
   ·simp only[if_neg q]
  refine⟨eg ρ s.nx (w.heap.size,nc*i.size),{w with heap:=w.heap.push<|.cells ((Array.range<|nc*i.size).map fun j=>vz.cells[j % vz.cells.size]!) e},.slice (some ⟨w.heap.size,0,none⟩) nl nc,Ext.bB eG,?_,?_,?_,(dA.alloc w _).below r.size⟩
  ·have w1:IntKind.i64.wrap (nl:Int)=nl:=G3 (by omega);have w2:IntKind.i64.wrap (nc:Int)=nc:=G3 (by omega);have t1:(decide ((nc:Int)<0)||decide ((i.bytes:Int)*(nc:Int)>2 ^ 48))=false:=by
    have:¬((nc:Int)<0):=by omega
    have h2:¬((i.bytes:Int)*(nc:Int)>2 ^ 48):=by
     have:(i.bytes:Int)*(nc:Int)=((nc*i.bytes:Nat):Int):=by rw[Nat.mul_comm];simp
     rw[this];omega
    rw[decide_eq_false this,decide_eq_false h2];rfl
   have t2:¬((nl:Int)<0):=by omega
   have t3:¬((nl:Int)>(nc:Int)):=by omega
   simp only[Instr.makeSlice,Sem.run_bind,aV e1,Result.andThen_ok,asInt,asIntOf,Sem.run_pure,mK h3,w1,w2];have Ve:¬(((decide ((nc:Int)<0)||decide ((i.bytes:Int)*(nc:Int)>2 ^ 48))=true)\/((nl:Int)<0)\/((nl:Int)>(nc:Int))):=by
    rw[t1];rintro (e|e|e)
    ·cases e
    ·exact t2 e
    ·exact t3 e
   have Qj:((decide ((nc:Int)<0)||decide ((i.bytes:Int)*(nc:Int)>2 ^ 48))||decide ((nl:Int)<0)||decide ((nl:Int)>(nc:Int)))=false:=by rw[t1];simp[t2,t3]
   simp only[Qj,Bool.false_eq_true,if_false,Sem.run_bind,run_askRoom,Result.andThen_ok,Int.toNat_natCast,dc (show cd P e=some i.size by simp[cd,h3])];by_cases q:nc*i.size=0
   ·simp only[if_pos q] at qw ⊢;simp only[Sem.run_bind,Sem.run_pure,Result.andThen_ok,qw];rfl
   ·simp only[if_neg q] at qw ⊢;simp only[Sem.run_bind,g1,Sem.run_pure,Result.andThen_ok];rfl
  ·simp only[VR];exact⟨_,_,fH _ _ _,rfl⟩
  ·refine r.new ht eG rfl ⟨_,e,rfl,by simp,Nat.le_refl _,fun j hj=>?_⟩;have Rj:0<z.cells.length:=by
    rcases Nat.eq_zero_or_pos z.cells.length with h0|h0
    ·rw[h0] at q5;have:Nat.beq (nc*i.size) 0=true:=by
      cases hb:Nat.beq (nc*i.size) 0 with
      |true=>rfl
      |false=>rw[hb] at q5;simp at q5
     have:=cC.1 this;omega
    ·exact h0
   have hm:j % z.cells.length<z.cells.length:=Nat.mod_lt _ Rj;obtain⟨a,ha⟩:∃a,z.cells[j % z.cells.length]? =some a:=⟨_,List.getElem?_eq_getElem hm⟩;obtain⟨v,hv,hr⟩:=g2.cells.get _ a ha;refine⟨a,v,?_,List.all_eq_true.1 q6 a<|List.mem_of_getElem? ha,?_,hr.mono<|lZ eG⟩
   ·unfold cellAt;rw[Tr.get_nil];exact ha
   ·have nE:j % vz.cells.size<vz.cells.size:=by rw[←hz];exact hm
    have kN:vz.cells[j % vz.cells.size]? =some v:=by rw[←hz];simpa using hv
    simp only[Array.getElem?_map,Array.getElem?_range,if_pos hj,Option.map_some];rw[getElem!_pos vz.cells _ nE];rw[Array.getElem?_eq_getElem nE] at kN;injection kN with kN;rw[kN]
theorem Mb{ty:TypeId}{l c:Operand}(he:∀x v,ar t x=some v->VR ρ v (ev x))(r:Rel B ρ s.h w)(hf:bL s.nx s1.nx ρ)(h:oQ P ty l c U7 t s= .ok x s1)(ho:o.op= .makeSlice ty l c):dh P B ρ s s1 w x<|execOp ev o:=by unfold oQ at h;obtain⟨a,h1,h2⟩:=bd h;obtain⟨b,h3,h4⟩:=bd h2;have:=(Mh (P:=P) (he l a h1) (he c b h3) r hf h4).op;simpa only[execOp,ho] using this
theorem zy{size n:Nat}{a:AV}{v:Value}{l:List AV}(ha:VR ρ a v)(fi:aS s)(r:Rel B ρ s.h w)(h:firstCells size n a s= .ok l s1):
 s1.h=s.h/\s1.nx=s.nx/\∃arr:Array Value,(Builtin.firstCells size n v).run P w= .ok arr w/\av ρ l arr.toList:=by
 cases a with
 |slice p len cap=>
  cases p with
  |none=>
   have h':(M.pure []:M<|List AV) s= .ok l s1:=by cases len<;>cases cap<;>exact h
   obtain⟨rfl,rfl⟩:=aQ h';obtain⟨rfl,rfl,rfl⟩:=gy ha;exact⟨rfl,rfl, #[],rfl,by simp[av]⟩
  |some p=>
   obtain⟨m,i⟩:=p;by_cases hc:cap= .lost
   ·subst hc;simp only[VR] at ha;obtain⟨rfl,b,N,q,c,e,rfl⟩:=ha;obtain⟨h1,h2⟩:=bP (show(aB (Nat.beq n 0) <| (M.pure []:M<|List AV)) s= .ok l s1 from h);obtain⟨rfl,rfl⟩:=aQ h2;have:=cC.1 h1;subst this;refine⟨rfl,rfl, #[],?_,by simp[av]⟩;simp[Builtin.firstCells,loadCells,loadCellsFrom]
   ·rw[uj hc] at h;have:∃b N c,ρ m=some (b,N)/\v= .slice (some ⟨b,i,none⟩) len c:=by
     cases cap with
     |known c=>simp only[VR] at ha;obtain⟨b,N,e,rfl⟩:=ha;exact⟨b,N,c,e,rfl⟩
     |aU lo e0=>simp only[VR] at ha;obtain⟨b,N,c,e,rfl,_⟩:=ha;exact⟨b,N,c,e,rfl⟩
     |lost=>exact absurd rfl hc
    obtain⟨b,N,c,e,rfl⟩:=this;obtain⟨a1,a2,a3,a4,vs,a5,a6,_⟩:=nO (P:=P) fi r h e;exact⟨a1,a2,vs.toArray,by simpa[Builtin.firstCells] using a5,by simpa using a6⟩
 |str q=>
  have h':(M.pure ((zQ q).take n):M<|List AV) s= .ok l s1:=h;obtain⟨rfl,rfl⟩:=aQ h';simp only[VR] at ha;subst ha;refine⟨rfl,rfl,(q.extract 0 n).data.map fun b=>.int .u8 b.toNat,rfl,?_⟩;refine av.Dz _ _ ?_ fun i a b ha hb=>?_
  ·simp[zQ,ByteArray.data_extract]
  ·obtain⟨⟨bs⟩⟩:=q;simp only[zQ] at ha;rw[←List.map_take,List.getElem?_map] at ha;have ft:((bs.take n).map fun b=>Value.int .u8 b.toNat)[i]? =some b:=by
    have e:((ByteArray.extract ⟨⟨bs⟩⟩ 0 n).data.map fun b=>Value.int .u8 b.toNat).toList=(bs.take n).map fun b=>Value.int .u8 b.toNat:=by simp[ByteArray.data_extract,List.extract]
    rw[←e];exact hb
   rw[List.getElem?_map] at ft;cases hq:(bs.take n)[i]? with
   |none=>rw[hq] at ft;cases ft
   |some y=>rw[hq] at ha ft;simp only[Option.map_some,Option.some.injEq] at ha ft;rw[←ha, ←ft];simp[VR]
 |_=>cases h
theorem Hs{a:AV}{v:Value}{n:Nat}(ha:VR ρ a v)(h:lenOf a=some n):(Builtin.lenOf v).run P w= .ok n w:=by
 cases a with
 |slice p len cap=>
  simp only[lenOf] at h;injection h with h;subst h
  cases p with
  |none=>obtain⟨rfl,rfl,rfl⟩:=gy ha;rfl
  |some p=>obtain⟨m,i⟩:=p;obtain⟨_,_,_,_,_,rfl⟩:=nR ha;rfl
 |str q=>simp only[lenOf] at h;injection h with h;subst h;simp only[VR] at ha;subst ha;rfl
 |_=>cases h
theorem Ht(iW:Nat):∀(k c:Nat),c<=iW->Builtin.growBy iW k c<=iW+iW+800
 |0,c,h=>by simp only[Builtin.growBy];omega
 |k+1,c,h=>by
  simp only[Builtin.growBy];by_cases q:c>=iW
  ·rw[if_pos q];omega
  ·rw[if_neg q];by_cases q2:c+(c+768) / 4<=iW
   ·exact Ht iW k _ q2
   ·have:∀k,Builtin.growBy iW k (c+(c+768) / 4)=c+(c+768) / 4:=by
     intro k;cases k with
     |zero=>rfl
     |succ k=>simp only[Builtin.growBy];rw[if_pos<|by omega]
    rw[this];omega
theorem Nj{iW bJ:Nat}(h:bJ<iW):Builtin.nextslicecap iW bJ<=2*iW+4096:=by
 unfold Builtin.nextslicecap;split
 ·omega
 ·split
  ·omega
  ·have:=Ht iW 4 bJ (by omega);omega
theorem OL{elem:TypeId}{i:TypeInfo}{sv xv:Value}{base:Option Addr}{len c n:Nat}{xt:Option TypeId}{args:Array TypeId}{sT:TypeId}{bJ new:Array Value}{zv:Value}(hs:sv= .slice base len c)(hu:P.underlying sT=some (.slice elem))(pN:args[0]? =some sT)(pO:args[1]? =xt)(hx:jO P xt=true)(hi:P.info? elem=some i)(hn:(Builtin.lenOf xv).run P w= .ok n w)(aW:c<len+n)(nj:2*(len+n)*i.bytes+4096*i.bytes<=room)(hb:i.bytes≠0)(ho:(Builtin.firstCells i.size len sv).run P {w with drawn:=w.drawn+1}= .ok bJ {w with drawn:=w.drawn+1})(hw:(Builtin.firstCells i.size n xv).run P {w with drawn:=w.drawn+1}= .ok new {w with drawn:=w.drawn+1})(hz:∀w':World,(zeroValue elem).run P w'= .ok zv w'):
    ∃ rest:List Value,∃nc,len+n<=nc/\rest.length=(nc - (len+n))*zv.cells.size/\(Builtin.append_ args 0 #[sv,xv]).run P w=
      .ok (.slice (some ⟨w.heap.size,0,none⟩) (len+n) nc) {w with heap:=w.heap.push<|.cells ((bJ++new).toList++rest).toArray elem,drawn:=w.drawn+1}:=by
  subst hs
  have Sg:=Nj aW
  have hmul:Builtin.nextslicecap (len+n) c*i.bytes<=2 ^ 48:=by
    have:=Nat.mul_le_mul_right i.bytes Sg
    have e:(2*(len+n)+4096)*i.bytes=2*(len+n)*i.bytes+4096*i.bytes:=Nat.add_mul _ _ _
    unfold room at nj
    omega
  have E6:∃nc,len+n<=nc/\(choose<|.appendCap (len+n) c elem).run P w= .ok nc {w with drawn:=w.drawn+1}:=by
    refine⟨len+n+w.tape w.drawn (.appendCap (len+n) c elem) % (2 ^ 63 - (len+n)),by omega,?_⟩
    rw[run_choose]
    simp[Question.forced,Question.cut]
  obtain⟨nc,Sh,Kp⟩:=E6
  refine⟨(Builtin.zeroCells zv.cells<|nc - (len+n)).toList,nc,Sh,by simp[Builtin.zeroCells],?_⟩
  have hle:¬(len+n<=c):=by omega
  have BA:¬(((len+n:Nat):Int)>IntKind.i64.max/\(False\/i.bytes=0)):=by
    rintro ⟨_,e|e⟩
    · cases e
    · exact hb e
  have Kq:¬(Builtin.nextslicecap (len+n) c*i.bytes>2 ^ 48):=by omega
  have dQ:∀w':World,(Go.newRow elem<|bJ++new++Builtin.zeroCells zv.cells (nc - (len+n))).run P w'= .ok ⟨w'.heap.size,0,none⟩ {w' with heap:=w'.heap.push<|.cells ((bJ++new).toList++(Builtin.zeroCells zv.cells<|nc - (len+n)).toList).toArray elem}:=by
    intro w'
    have e:((bJ++new).toList++(Builtin.zeroCells zv.cells<|nc - (len+n)).toList).toArray=bJ++new++Builtin.zeroCells zv.cells (nc - (len+n)):=by
      rw[←Array.toList_append]
    rw[e];rfl
  unfold jO at hx
  cases xt with
  | none=>
    simp only[Builtin.append_,pN,pO]
    simp only[show(#[Value.slice base len c,xv]:Array Value)[0]? =some (.slice base len c) from rfl,show(#[Value.slice base len c,xv]:Array Value)[1]? =some xv from rfl]
    simp only[Sem.run_bind,aV hu,Result.andThen_ok,dc (show cd P elem=some i.size by simp[cd,hi]),Sem.run_pure,Bool.false_eq_true,if_false,hn,if_neg hle,mK hi]
    rw[if_neg BA]
    simp only[Sem.run_bind,mK hi,Result.andThen_ok]
    rw[if_neg Kq]
    simp only[Sem.run_bind,Kp,Result.andThen_ok,mK hi,run_askRoom,ho,Bool.not_false,if_true,hw,hz,dQ,Sem.run_pure]
  | some q =>
    simp only at hx
    cases e:P.underlying q with
    |none=>rw[e] at hx;cases hx
    | some d=>
      rw[e] at hx
      cases d<;>first
        |(cases hx;done)
        | (simp only[Builtin.append_,pN,pO]
           simp only[show(#[Value.slice base len c,xv]:Array Value)[0]? =some (.slice base len c) from rfl,show(#[Value.slice base len c,xv]:Array Value)[1]? =some xv from rfl]
           simp only[Sem.run_bind,aV hu,Result.andThen_ok,dc (show cd P elem=some i.size by simp[cd,hi]),Sem.run_pure,aV e,Bool.false_eq_true,if_false,hn,if_neg hle,mK hi]
           rw[if_neg BA]
           simp only[Sem.run_bind,mK hi,Result.andThen_ok]
           rw[if_neg Kq]
           simp only[Sem.run_bind,Kp,Result.andThen_ok,mK hi,run_askRoom,ho,Bool.not_false,if_true,hw,hz,dQ,Sem.run_pure])
end
end Go.Rn
namespace Go.Rn
open Go.RowKit
section
variable {P:Program} {B:aH} {ρ:aj} {w:World} {s s1:AS} {x:AV} {U7:aJ} {t:Tr AV} {ev:Operand->Value} {o:Oper}
theorem Ap{elem:TypeId}{size:Nat}{xv:Value}{base:Option Addr}{len c n:Nat}{xt:Option TypeId}{args:Array TypeId}{sT:TypeId}{new:Array Value}{w':World}(hu:P.underlying sT=some (.slice elem))(pN:args[0]? =some sT)(pO:args[1]? =xt)(hx:jO P xt=true)(hi:cd P elem=some size)(hn:(Builtin.lenOf xv).run P w= .ok n w)(hle:len+n<=c)(hw:(Builtin.firstCells size n xv).run P w= .ok new w)(jG:(match base with|some a=>storeCells (a.add<|len*size) new.toList|none=>pure ()).run P w= .ok () w'):
    (Builtin.append_ args 0 #[.slice base len c,xv]).run P w= .ok (.slice base (len+n) c) w':=by
  have eG:base=none->w'=w:=by
    intro e;subst e
    have Si:Result.ok () w= .ok () w':=jG
    injection Si with _ e;exact e.symm
  unfold jO at hx
  cases xt with
  | none=>
    simp only[Builtin.append_,pN,pO]
    simp only[show(#[Value.slice base len c,xv]:Array Value)[0]? =some (.slice base len c) from rfl,show(#[Value.slice base len c,xv]:Array Value)[1]? =some xv from rfl]
    simp only[Sem.run_bind,aV hu,Result.andThen_ok,dc hi,Sem.run_pure,Bool.false_eq_true,if_false,hn,if_pos hle,Bool.not_false,if_true,hw]
    cases base with
    |none=>simp only[Sem.run_pure,eG rfl]
    |some a=>simp only[Sem.run_bind,show(storeCells (a.add<|len*size) new.toList).run P w= .ok () w' from jG,Result.andThen_ok,Sem.run_pure]
  | some q =>
    simp only at hx
    cases e:P.underlying q with
    |none=>rw[e] at hx;cases hx
    | some d=>
      rw[e] at hx
      cases d<;>first
        |(cases hx;done)
        | (simp only[Builtin.append_,pN,pO]
           simp only[show(#[Value.slice base len c,xv]:Array Value)[0]? =some (.slice base len c) from rfl,show(#[Value.slice base len c,xv]:Array Value)[1]? =some xv from rfl]
           simp only[Sem.run_bind,aV hu,Result.andThen_ok,dc hi,Sem.run_pure,aV e,Bool.false_eq_true,if_false,hn,if_pos hle,Bool.not_false,if_true,hw]
           cases base with
           |none=>simp only[Sem.run_pure,eG rfl]
           |some a=>simp only[Sem.run_bind,show(storeCells (a.add<|len*size) new.toList).run P w= .ok () w' from jG,Result.andThen_ok,Sem.run_pure])
theorem Mi{i:TypeInfo}{elem:TypeId}(hi:P.info? elem=some i)(h:lT i=true):∃zv,(∀w':World,(zeroValue elem).run P w'= .ok zv w')/\zv.cells.size=i.size:=by
 unfold lT at h;cases e:i.zero with
 |none=>rw[e] at h;cases h
 |some v=>rw[e] at h;exact⟨v,fun w'=>by simp[zeroValue,mK hi,e],cC.1 h⟩
theorem Mj{n off:Nat}{l:List AV}{vs:List Value}{u:Unit}{b N:Nat}(fi:aS s)(r:Rel B ρ s.h w)(hN:off+l.length<=N)(h:oR n off l s= .ok u s1)(hn:ρ n=some (b,N))(hl:av ρ l vs):
 s1.nx=s.nx/\∃w',(storeCells ⟨b,off,none⟩ vs).run P w= .ok () w'/\Rel B ρ s1.h w'/\bp B w w':=by
 cases l with
 |nil=>simp only[av] at hl;subst hl;have h':M.pure () s= .ok u s1:=h;obtain⟨_,rfl⟩:=aQ h';exact⟨rfl,w,rfl,r,bp.refl _ _⟩
 |cons x l=>
  unfold oR at h;obtain⟨o,s2,h1,h2⟩:=M.aL h;obtain⟨hx,hg,hh,bq⟩:=eS h1;have ht:n<top:=Nat.lt_of_lt_of_le hx fi.nx;obtain⟨o',hb,hO,hB⟩:=r.block ht hg hn;cases o with
  |cells m t z=>
   obtain⟨q1,q2⟩:=bP h2;obtain⟨q3,q4⟩:=and_true.1 q1;obtain⟨q5,q6⟩:=and_true.1 q4;obtain⟨_,_,_,e1,e2⟩:=hY q2;obtain⟨c,e,rfl,hc,hm,row⟩:=hO;have hlen:(x::l).length=vs.length:=hl.length;have h3:off<=m:=aK.1 q3;have h4:max m (off+(x::l).length)<=top:=aK.1 q5;have h5:∀y∈x::l,y.bu=true:=fun y hy=>List.all_eq_true.1 q6 y hy;have jG:=Cz (P:=P) (off:=off) (vs:=vs) hb (by omega)<|zA hl h5;obtain⟨g1,g2⟩:=Cc (cs:=(c.toList.take off++vs++c.toList.drop (off+vs.length)).toArray) hb;refine⟨by rw[e2,bq],_,jG,?_,g1.below<|hB rfl⟩;rw[e1,hh];refine r.put ht hg rfl rfl hn rfl g1 g2 ?_;refine⟨_,e,rfl,(size_set<|by omega).trans hc,?_,?_⟩
   ·show max m (off+(x::l).length)<=N;omega
   ·have h6:max m (off+(x::l).length)<=c.size:=by omega
    exact Row.set (ρ:=ρ) (c:=c) (n:=m) row hl h5 h3 rfl h6 h4
  |_=>cases h2
theorem CB{elem sT:TypeId}{i:TypeInfo}{sv xv:Value}{base:Option Addr}{len c n:Nat}{xt:Option TypeId}{args:Array TypeId}{bJ new:List AV}{vo vn:Array Value}(hs:sv= .slice base len c)(hu:P.underlying sT=some (.slice elem))(pN:args[0]? =some sT)(pO:args[1]? =xt)(hx:jO P xt=true)(hi:P.info? elem=some i)(hz:lT i=true)(hn:(Builtin.lenOf xv).run P w= .ok n w)(aW:c<len+n)(r:Rel B ρ s.h w)(hf:bL s.nx s1.nx ρ)(cx:bJ.length=len*i.size)(pP:new.length=n*i.size)(ho:(Builtin.firstCells i.size len sv).run P {w with drawn:=w.drawn+1}= .ok vo {w with drawn:=w.drawn+1})(hw:(Builtin.firstCells i.size n xv).run P {w with drawn:=w.drawn+1}= .ok vn {w with drawn:=w.drawn+1})(K9:av ρ bJ vo.toList)(v5:av ρ new vn.toList)(h:grown i.size i.bytes (len+n) bJ new s= .ok x s1):eK P B ρ s s1 w x<|Builtin.append_ args 0 #[sv,xv]:=by
 unfold grown at h;obtain⟨h1,h2⟩:=bP h;obtain⟨m,s2,h3,h4⟩:=M.aL h2;obtain⟨rfl,rfl⟩:=aQ h4;obtain⟨h5,h6⟩:=and_true.1 h1;have nj:=aK.1 h5;have hb:i.bytes≠0:=by intro e;rw[e] at h6;simp at h6
 obtain⟨zv,Tp,Tq⟩:=Mi (P:=P) hi hz;obtain⟨rest,nc,g1,g2,g3⟩:=OL (P:=P) (w:=w) hs hu pN pO hx hi hn aW nj hb ho hw Tp;have r1:Rel B ρ s.h {w with drawn:=w.drawn+1}:=r.xY<|dA.drew w;obtain⟨rfl,k1,σ,k2,k3,k4,k5⟩:=Co (P:=P) elem rest r1 hf h3<|K9.append v5;have e:vo.toList++vn.toList++rest=(vo++vn).toList++rest:=by simp
 refine⟨σ,_,_,k2,g3,?_,?_,(dA.trans (dA.drew w)<|dA.alloc _ _).below r.size⟩
 ·simp only[VR];refine⟨_,_,nc,k3,rfl,g1,g1,?_⟩;have e1:=K9.length;have e2:=v5.length;simp only[List.length_append];rw[←e1, ←e2,cx,pP,g2,Tq,Nat.zero_add, ←Nat.add_mul, ←Nat.add_mul];exact Nat.le_of_eq (by congr 1;omega)
 ·rw[e] at k5;exact k5
theorem L4{size len:Nat}{base:Option<|Nat×Nat}{cap:aZ}{l:List AV}{v:Value}(fi:aS s)(r:Rel B ρ s.h w)(ha:VR ρ (.slice base len cap) v)(hc:cap≠ .lost)(h:firstCells size len (.slice base len cap) s= .ok l s1):l.length=len*size:=by
 cases base with
 |none=>obtain⟨rfl,rfl,rfl⟩:=gy ha;obtain⟨rfl,rfl⟩:=aQ (show(M.pure []:M<|List AV) s= .ok l s1 from h);simp
 |some p=>obtain⟨m,i⟩:=p;rw[uj hc] at h;obtain⟨b,N,q,k,hn,rfl⟩:=nR ha;exact(nO (P:=(default:Program)) fi r h hn).2.2.1
end
end Go.Rn
namespace Go.Rn
open Go.RowKit
theorem U5.bo{α:Type}{m:M α}(hm:U5 m){s s1:AS}{v:α}(fi:aS s)(h:m s= .ok v s1):aS s1:=by obtain⟨dr,dw,d,_⟩:=hm s v s1 fi h;exact d.bo fi
theorem U5.le{α:Type}{m:M α}(hm:U5 m){s s1:AS}{v:α}(fi:aS s)(h:m s= .ok v s1):s.nx<=s1.nx:=by obtain⟨dr,dw,d,_⟩:=hm s v s1 fi h;exact d.nx
section
variable {P:Program} {B:aH} {ρ:aj} {w:World} {s s1:AS} {x:AV} {U7:aJ} {t:Tr AV} {ev:Operand->Value} {o:Oper}
theorem eK.nx{s2:AS}{c:Sem Value}(h:eK P B ρ s2 s1 w x c)(e:s2.nx=s.nx):eK P B ρ s s1 w x c:=by unfold eK at h ⊢;rw[e] at h;exact h
theorem GD{elem sT:TypeId}{size len c n m b N:Nat}{xv:Value}{xt:Option TypeId}{args:Array TypeId}{bJ new:List AV}{vn:Array Value}{s2:AS}{p:U}{bytes:Nat}{vo:List Value}(hu:P.underlying sT=some (.slice elem))(pN:args[0]? =some sT)(pO:args[1]? =xt)(hx:jO P xt=true)(hi:cd P elem=some size)(hn:(Builtin.lenOf xv).run P w= .ok n w)(hle:len+n<=c)(r:Rel B ρ s.h w)(ht:m<top)(hg:s.h.get m=some p)(hp:p.nV=true)(hm:ρ m=some (b,N))(hc:c*size<=N)(hf:bL s.nx s1.nx ρ)(cx:bJ.length=len*size)(pP:new.length=n*size)(yH:s2.h=s.h.put m none)(yI:s2.nx=s.nx)(hw:(Builtin.firstCells size n xv).run P w= .ok vn w)(hold:∀j v,vo[j]? =some v->w.cell? ⟨b,0+j,none⟩=some v)(ho:av ρ bJ vo)(v5:av ρ new vn.toList)(h:grown size bytes (len+n) bJ new s2= .ok x s1):eK P B ρ s s1 w x<|Builtin.append_ args 0 #[.slice (some ⟨b,0,none⟩) len c,xv]:=by
 obtain⟨o',hb,hO,hB⟩:=r.block ht hg hm;cases p with
 |cells k tr z=>
  obtain⟨c0,e0,rfl,mD,hk,row⟩:=hO;unfold grown at h;obtain⟨_,h2⟩:=bP h;obtain⟨q,s3,h3,h4⟩:=M.aL h2;obtain⟨rfl,rfl⟩:=aQ h4;unfold newRow at h3;obtain⟨q1,q2⟩:=bP h3;obtain⟨q3,q4⟩:=and_true.1 q1;obtain⟨yJ,rfl,rfl⟩:=kX q2;have mh:∀y∈bJ++new,y.bu=true:=fun y hy=>List.all_eq_true.1 q4 y hy;have hlen:(bJ++new).length<=top:=aK.1 q3;have Vq:=v5.length;have tP:=ho.length;have hmul:len*size+n*size<=c*size:=by rw[←Nat.add_mul];exact Nat.mul_le_mul_right _ hle
  have A7:len*size+vn.toList.length<=c0.size:=by omega
  have jG:=Cz (P:=P) (off:=len*size) (vs:=vn.toList) hb A7<|zA v5 fun y hy=>mh y<|List.mem_append_right _ hy;obtain⟨g1,g2⟩:=Cc (cs:=(c0.toList.take (len*size)++vn.toList++c0.toList.drop (len*size+vn.toList.length)).toArray) hb;have pq:=Ap (P:=P) (w:=w) (base:=some ⟨b,0,none⟩) hu pN pO hx hi hn hle hw (by show(storeCells ((Addr.mk b 0 none).add<|len*size) vn.toList).run P w=_;rw[Addr.jk,Nat.zero_add];exact jG);obtain⟨d1,d2⟩:=r.Jp ht hg rfl rfl hm g1;have eG:ρ s2.nx=none:=hf s2.nx (by omega) (Nat.lt_succ_self _) (by omega);refine⟨eg ρ s2.nx (b,N),_,_,?_,pq,?_,?_,g1.below<|hB rfl⟩
  ·rw[←yI];exact Ext.bB eG
  ·simp only[VR];exact⟨b,N,c,fH _ _ _,rfl,hle,hle,by omega⟩
  ·show Rel B _ (s2.h.put s2.nx<|some<|.cells (bJ++new).length (Tr.fill (bJ++new) 0 .nil) []) _;rw[yH];refine d1.name yJ eG rfl g2 (fun _=>hB rfl) (fun k' sh=>by
    cases e:ρ (Rn.hn k' b sh) with
    |none=>rfl
    |some x=>obtain⟨_,_,_,_,_,_,_,q3,_⟩:=r.fz k' b sh (by rw[e];exact fun h=>by cases h);exact absurd hm<|q3 m _ N ht hg rfl) d2 ?_ (r.tk.of (lZ eG) (fun j q hj hq mj=>by
    rw[Tr.cV _ _ _ _ yJ hj] at hq;by_cases e:j=s2.nx
    ·rw[if_pos e] at hq;cases hq;cases mj
    ·rw[if_neg e,Tr.cV _ _ _ _ ht hj] at hq;by_cases e2:j=m
     ·rw[if_pos e2] at hq;cases hq
     ·rw[if_neg e2] at hq;exact hq) (by rw[g1.size];exact Nat.le_refl _) (fun b1 _ hn=>g1.block b1 fun e=>hn m _ N ht hg rfl (by rw[e];exact hm)) (fun b1 _ hn j q M hj hq dm e2=>by
    rw[Tr.cV _ _ _ _ yJ hj] at hq;by_cases e:j=s2.nx
    ·subst e;rw[fH] at e2;cases e2;exact hn m _ N ht hg rfl hm
    ·rw[if_neg e,Tr.cV _ _ _ _ ht hj] at hq;rw[gN ρ _ e] at e2;by_cases e3:j=m
     ·rw[if_pos e3] at hq;cases hq
     ·rw[if_neg e3] at hq;exact hn j q M hj hq dm e2) (fun j x sh _ _ e=>by rw[gN ρ _ (by have:=fI j x sh;omega)];exact e))
   refine⟨_,e0,rfl,?_,?_,fun i hi=>?_⟩
   ·exact(size_set A7).trans mD
   ·simp only[List.length_append];omega
   ·simp only[List.length_append] at hi;obtain⟨a,ha⟩:∃a,(bJ++new)[i]? =some a:=⟨(bJ++new)[i]'(by simp;exact hi),List.getElem?_eq_getElem _⟩;have kx:=p6 (l:=bJ++new) (i:=i) hlen (by simp;exact hi);obtain⟨v,hv,hr⟩:=(ho.append v5).get i a ha;refine⟨a,v,by rw[kx];exact ha,mh a<|List.mem_of_getElem? ha,?_,hr.mono<|lZ eG⟩;simp only[List.getElem?_toArray];by_cases q:i<len*size
    ·rw[List.getElem?_append_left<|by omega] at hv;have:=hold i v hv;simp only[World.cell?,hb,Nat.zero_add] at this;rw[List.append_assoc,List.getElem?_append_left (by simp;omega),List.getElem?_take_of_lt q];simpa using this
    ·rw[List.getElem?_append_right<|by omega] at hv;have Vr:i - vo.length<vn.toList.length:=(List.getElem?_eq_some_iff.1 hv).1;rw[List.append_assoc,List.getElem?_append_right (by simp;omega)];simp only[List.length_take,Array.length_toList];rw[Nat.min_eq_left (by omega),List.getElem?_append_left<|by omega];rw[show i - len*size=i - vo.length from by omega];exact hv
 |_=>cases hp
theorem Mw{ts:Array TypeId}{a b:AV}{va vb:Value}(ha:VR ρ a va)(hb:VR ρ b vb)(fi:aS s)(r:Rel B ρ s.h w)(hf:bL s.nx s1.nx ρ)(h:gL P ts a b s= .ok x s1):
 eK P B ρ s s1 w x (Builtin.append_ ts 0 #[va,vb]):=by
 unfold gL at h;obtain⟨sT,h1,h⟩:=bd h;cases e1:P.underlying sT with
 |none=>simp only[e1] at h;cases h
 |some d=>
  cases d<;>simp only[e1] at h<;>first|(cases h;done)|skip
  rename_i elem;cases a<;>simp only at h<;>first|(cases h;done)|skip
  rename_i base len cap _;obtain⟨i,h2,h⟩:=bd h;obtain⟨h3,h⟩:=bP h;obtain⟨hz,hx⟩:=and_true.1 h3;obtain⟨n,h4,h⟩:=bd h;obtain⟨new,s2,h5,h⟩:=M.aL h;obtain⟨h6,h⟩:=bP h;have pP:=cC.1 h6;have hi:cd P elem=some i.size:=by simp[cd,h2]
  obtain⟨k1,k2,vn,k3,k4⟩:=zy (P:=P) hb fi r h5;have rd:Rel B ρ s.h {w with drawn:=w.drawn+1}:=r.xY<|dA.drew w;obtain⟨_,_,Ts,BB,BC⟩:=zy (P:=P) hb fi rd h5;have hn:=Hs (P:=P) (w:=w) hb h4;have bU:aS s2:=(U5.firstCells _ _ _).bo fi h5;have r2:Rel B ρ s2.h w:=by rw[k1];exact r
  have tQ:Rel B ρ s2.h {w with drawn:=w.drawn+1}:=by rw[k1];exact rd
  unfold ji at h;cases cap with
  |lost=>cases h
  |known c=>
   simp only at h;cases q:Nat.ble (len+n) c with
   |true=>
    simp only[q] at h;have hle:=aK.1 q;obtain⟨u,s3,h7,h8⟩:=M.aL h;obtain⟨rfl,rfl⟩:=aQ h8;cases base with
    |none=>
     obtain⟨rfl,rfl⟩:=aQ h7;obtain⟨rfl,hc,rfl⟩:=gy ha;cases hc;have tL:n=0:=by omega
     subst tL;refine⟨ρ,w,_,by rw[k2];exact Ext.refl _ _ _,Ap (P:=P) (w:=w) (base:=none) e1 h1 rfl hx hi hn hle k3 rfl,?_,r2,bp.refl _ _⟩;simp[VR]
    |some p=>obtain⟨m,j⟩:=p;have oz:=ha;simp only[VR] at oz;obtain⟨bb,N,hm,rfl⟩:=oz;obtain⟨g1,w',g2,g3,g4⟩:=zx (P:=P) bU r2 h7 hm k4;refine⟨ρ,w',_,by rw[g1,k2];exact Ext.refl _ _ _,Ap (P:=P) (w:=w) (base:=some ⟨bb,j,none⟩) e1 h1 rfl hx hi hn hle k3 (by show(storeCells ((Addr.mk bb j none).add<|len*i.size) vn.toList).run P w=_;rw[Addr.jk];exact g2),?_,g3,g4⟩;simp only[VR];exact⟨bb,N,hm,rfl⟩
   |false=>
    simp only[q] at h;have aW:c<len+n:=by
     rcases Nat.lt_or_ge c (len+n) with e|e
     ·exact e
     ·rw[aK.2 e] at q;cases q
    obtain⟨bJ,s3,h7,h8⟩:=M.aL h;obtain⟨j1,j2,vo,j3,j4⟩:=zy (P:=P) ha bU tQ h7;have tP:=L4 bU r2 ha (by intro e;cases e) h7;have:∃JU:Option Addr,va= .slice JU len c:=by
     cases base with
     |none=>obtain⟨rfl,hc,rfl⟩:=gy ha;cases hc;exact⟨_,rfl⟩
     |some p=>obtain⟨m,j⟩:=p;simp only[VR] at ha;obtain⟨_,_,_,rfl⟩:=ha;exact⟨_,rfl⟩
    obtain⟨JU,Tt⟩:=this;refine eK.nx (s2:=s3) (CB (P:=P) Tt e1 h1 rfl hx h2 hz hn aW (by rw[j1];exact r2) (by rw[j2,k2];exact hf) tP pP j3 BB j4 BC h8) (by rw[j2,k2])
  |aU lo sz=>
   obtain⟨h7,h⟩:=bP h;have:=cC.1 h7;subst this;cases q:Nat.ble (len+n) lo with
   |true=>
    simp only[q] at h;have hle:=aK.1 q;cases base with
    |none=>cases h
    |some p=>
     obtain⟨m,j⟩:=p;simp only at h;obtain⟨u,s3,h8,h9⟩:=M.aL h;obtain⟨rfl,rfl⟩:=aQ h9;have oz:=ha;simp only[VR] at oz;obtain⟨bb,N,c,hm,rfl,cx,BD,hN⟩:=oz;have A7:j+len*i.size+new.length<=N:=by have:(len+n)*i.size<=c*i.size:=Nat.mul_le_mul_right _ (by omega);rw[Nat.add_mul] at this;omega
     obtain⟨g1,w',g2,g3,g4⟩:=Mj (P:=P) bU r2 A7 h8 hm k4;refine⟨ρ,w',_,by rw[g1,k2];exact Ext.refl _ _ _,Ap (P:=P) (w:=w) (base:=some ⟨bb,j,none⟩) e1 h1 rfl hx hi hn (by omega) k3 (by show(storeCells ((Addr.mk bb j none).add<|len*i.size) vn.toList).run P w=_;rw[Addr.jk];exact g2),?_,g3,g4⟩;simp only[VR];exact⟨bb,N,c,hm,rfl,cx,by omega,hN⟩
   |false=>
    simp only[q] at h;cases base with
    |none=>cases h
    |some p=>
     obtain⟨m,j⟩:=p;cases j with
     |succ j=>cases h
     |zero=>
      simp only at h;obtain⟨bJ,s3,h8,h⟩:=M.aL h;obtain⟨ob,s4,h9,h⟩:=M.aL h;obtain⟨dU,h⟩:=bP h;obtain⟨u,s5,yK,nF⟩:=M.aL h;have oz:=ha;simp only[VR] at oz;obtain⟨bb,N,c,hm,rfl,cx,BD,hN⟩:=oz;obtain⟨j1,j2,j3,j4,vo,j5,j6,j7⟩:=nO (P:=P) bU r2 h8 hm;obtain⟨_,_,_,_,Tu,E7,E8,_⟩:=nO (P:=P) bU tQ h8 hm;obtain⟨i1,i2,i3,i4⟩:=eS h9;obtain⟨i5,i6,i7,i8,i9⟩:=hY yK;have hh:s4.h=s2.h:=i3.trans j1;have bq:s4.nx=s.nx:=(i4.trans j2).trans k2;by_cases hq:len+n<=c
      ·refine eK.nx (s2:=s2) ?_ k2;refine GD (P:=P) (s:=s2) (s2:=s5) (p:=ob) (vo:=vo) e1 h1 rfl hx hi hn hq r2 i6 (by rw[←j1];exact i2) dU hm (by omega) (by rw[k2];exact hf) j3 pP (by rw[i8,hh]) (by rw[i9,bq,k2]) k3 j7 j6 k4 nF
      ·have pQ:s4.h.get m≠some .fp:=by intro e;rw[i3,i2] at e;injection e with e;subst e;cases dU
       refine eK.nx (s2:=s5) (CB (P:=P) rfl e1 h1 rfl hx h2 hz hn (by omega) (by rw[i8];exact Rel.drop (by rw[hh];exact r2) i6 pQ) (by rw[i9,bq];exact hf) j3 pP (by simpa[Builtin.firstCells] using E7) BB (by simpa using E8) BC nF) (by rw[i9,bq])
theorem Gk{size n o k:Nat}{v:Value}{l:List AV}{U7:aJ}(dQ:sM B U7)(ht:top<=n)(hb:VR ρ (.ch n o k) v)(fi:aS s)(r:Rel B ρ s.h w)(h:mN U7 n o (k*size) s= .ok l s1):
 s1.h=s.h/\s1.nx=s.nx/\l.length=k*size/\(Builtin.lenOf v).run P w= .ok k w/\∃arr:Array Value,(Builtin.firstCells size k v).run P w= .ok arr w/\av ρ l arr.toList:=by
 rcases Nat.eq_zero_or_pos (k*size) with hk|hk
 ·rw[show mN U7 n o (k*size)=M.pure [] from by rw[hk];rfl] at h;obtain⟨rfl,rfl⟩:=aQ h;refine⟨rfl,rfl,hk.symm,?_⟩;simp only[VR] at hb;rcases hb with⟨_,rfl,a0,c,rfl,_⟩|⟨b,sh,c,e,rfl,_⟩
  ·refine⟨rfl, #[],?_,by simp[av]⟩;cases a0<;>simp[Builtin.firstCells,loadCells,loadCellsFrom]
  ·refine⟨rfl, #[],?_,by simp[av]⟩;simp[Builtin.firstCells,loadCells,loadCellsFrom,hk]
 rw[show mN U7 n o (k*size)=(U7 (.row n o<|k*size) []).bind fun x=>match x with
  | .agg l=>aB (Nat.beq l.length<|k*size) <| M.pure l
  |_=>fail from by obtain⟨m,hm⟩:∃m,k*size=m+1:=⟨k*size - 1,by omega⟩;rw[hm];rfl] at h
 obtain⟨x,s2,h1,h2⟩:=M.aL h;split at h2<;>first|(cases h2;done)|skip
 rename_i l';obtain⟨h3,h4⟩:=bP h2;obtain⟨rfl,rfl⟩:=aQ h4;obtain⟨a1,a2,a3⟩:=dQ _ _ _ _ _ _ _ _ fi r h1;have hlen:=cC.1 h3;refine⟨a1,a2,hlen,?_⟩;simp only[VR] at hb;rcases hb with⟨_,rfl,a0,c,rfl,hz⟩|⟨b,sh,c,e,rfl,_⟩
 ·have:l=[]:=List.eq_nil_of_length_eq_zero (by rw[hlen,Nat.zero_mul]);subst this;refine⟨rfl, #[],?_,by simp[av]⟩;cases a0<;>simp[Builtin.firstCells,loadCells,loadCellsFrom]
 ·obtain⟨l2,vs,e2,e3,e4,c',et,fr,e5,e6⟩:=a3 b sh<|e.high ht;injection e2 with e2
  subst e2;have xG:=zY (P:=P) (w:=w) e5 e6;rw[e3] at xG;exact⟨rfl,vs.toArray,by simpa[Builtin.firstCells] using xG,by simpa using e4⟩
theorem ML{ts:Array TypeId}{a:AV}{n0 o0 k0:Nat}{va vb:Value}{U7:aJ}(dQ:sM B U7)(hl:∀t a,U5<|U7 t a)(ha:VR ρ a va)(hb:VR ρ (.ch n0 o0 k0) vb)(fi:aS s)(r:Rel B ρ s.h w)(hf:bL s.nx s1.nx ρ)(h:sq P U7 ts a n0 o0 k0 s= .ok x s1):
 eK P B ρ s s1 w x (Builtin.append_ ts 0 #[va,vb]):=by
 unfold sq at h;obtain⟨gG,h⟩:=bP h;have gG:=aK.1 gG;obtain⟨sT,h1,h⟩:=bd h;cases e1:P.underlying sT with
 |none=>simp only[e1] at h;cases h
 |some d=>
  cases d<;>simp only[e1] at h<;>first|(cases h;done)|skip
  rename_i elem;obtain⟨m,len,cap,rfl⟩:∃m len cap,a= .slice (some (m,0)) len cap:=by
   cases a with
   |slice base len cap=>
    cases base with
    |none=>cases h
    |some p=>
     obtain⟨m,j⟩:=p;cases j with
     |succ j=>cases h
     |zero=>exact⟨m,len,cap,rfl⟩
   |_=>cases h
  obtain⟨i,h2,h⟩:=bd h;obtain⟨h3,h⟩:=bP h;obtain⟨hz,hx⟩:=and_true.1 h3;obtain⟨cO,h⟩:=bP h;obtain⟨new,s2,h5,h⟩:=M.aL h;have hi:cd P elem=some i.size:=by simp[cd,h2]
  obtain⟨k1,k2,pP,hn,vn,k3,k4⟩:=Gk (P:=P) dQ gG hb fi r h5;have rd:Rel B ρ s.h {w with drawn:=w.drawn+1}:=r.xY<|dA.drew w;obtain⟨_,_,_,_,Ts,BB,BC⟩:=Gk (P:=P) dQ gG hb fi rd h5;have bU:aS s2:=(U5.mN hl _ _ _).bo fi h5;have r2:Rel B ρ s2.h w:=by rw[k1];exact r
  have tQ:Rel B ρ s2.h {w with drawn:=w.drawn+1}:=by rw[k1];exact rd
  have oz:∃bb N c,ρ m=some (bb,N)/\va= .slice (some ⟨bb,0,none⟩) len c/\len<=c/\0+c*i.size<=N:=by
   cases cap with
   |lost=>cases cO
   |known c=>obtain⟨q1,q2⟩:=and_true.1 cO;have q1:=cC.1 q1;have q2:=cC.1 q2;subst q1;subst q2;simp only[VR] at ha;obtain⟨bb,N,e,hv⟩:=ha;exact⟨bb,N,0,e,hv,Nat.le_refl _,by omega⟩
   |aU lo sz=>have:=cC.1 cO;subst this;simp only[VR] at ha;obtain⟨bb,N,c,hm,hv,_,BD,hN⟩:=ha;exact⟨bb,N,c,hm,hv,BD,hN⟩
  obtain⟨bb,N,c,hm,rfl,BD,hN⟩:=oz;obtain⟨bJ,s3,h8,h⟩:=M.aL h;obtain⟨ob,s4,h9,h⟩:=M.aL h;obtain⟨dU,h⟩:=bP h;obtain⟨u,s5,yK,nF⟩:=M.aL h;obtain⟨j1,j2,j3,j4,vo,j5,j6,j7⟩:=nO (P:=P) bU r2 h8 hm;obtain⟨_,_,_,_,Tu,E7,E8,_⟩:=nO (P:=P) bU tQ h8 hm;obtain⟨i1,i2,i3,i4⟩:=eS h9;obtain⟨i5,i6,i7,i8,i9⟩:=hY yK;have hh:s4.h=s2.h:=i3.trans j1;have bq:s4.nx=s.nx:=(i4.trans j2).trans k2;by_cases hq:len+k0<=c
  ·refine eK.nx (s2:=s2) ?_ k2;refine GD (P:=P) (s:=s2) (s2:=s5) (p:=ob) (vo:=vo) e1 h1 rfl hx hi hn hq r2 i6 (by rw[←j1];exact i2) dU hm (by omega) (by rw[k2];exact hf) j3 pP (by rw[i8,hh]) (by rw[i9,bq,k2]) k3 j7 j6 k4 nF
  ·have pQ:s4.h.get m≠some .fp:=by intro e;rw[i3,i2] at e;injection e with e;subst e;cases dU
   refine eK.nx (s2:=s5) (CB (P:=P) rfl e1 h1 rfl hx h2 hz hn (by omega) (by rw[i8];exact Rel.drop (by rw[hh];exact r2) i6 pQ) (by rw[i9,bq];exact hf) j3 pP (by simpa[Builtin.firstCells] using E7) BB (by simpa using E8) BC nF) (by rw[i9,bq])
end
end Go.Rn
namespace Go.Rn
open Go.RowKit
section
variable {P:Program} {B:aH} {ρ:aj} {w:World} {s s1:AS} {x:AV} {U7:aJ} {t:Tr AV} {ev:Operand->Value} {o:Oper}
theorem Nk{ts:Array TypeId}{a b:AV}{va vb:Value}(ha:VR ρ a va)(hb:VR ρ b vb)(fi:aS s)(r:Rel B ρ s.h w)(h:qq P ts a b s= .ok x s1):
 eK P B ρ s s1 w x (Builtin.copy_ ts 0 #[va,vb]):=by
 unfold qq at h;obtain⟨sT,h1,h⟩:=bd h;cases e1:P.underlying sT with
 |none=>simp only[e1] at h;cases h
 |some d=>
  cases d<;>simp only[e1] at h<;>first|(cases h;done)|skip
  rename_i elem;cases a<;>simp only at h<;>first|(cases h;done)|skip
  rename_i base len cap _;obtain⟨k,h2,h⟩:=bd h;obtain⟨n,h3,h⟩:=bd h;obtain⟨h4,h⟩:=bP h;obtain⟨cells,s2,h5,h⟩:=M.aL h;obtain⟨u,s3,h6,h7⟩:=M.aL h;obtain⟨rfl,rfl⟩:=aQ h7;have hn:=Hs (P:=P) (w:=w) hb h3;obtain⟨k1,k2,vn,k3,k4⟩:=zy (P:=P) hb fi r h5;have bU:aS s2:=(U5.firstCells _ _ _).bo fi h5;have r2:Rel B ρ s2.h w:=by rw[k1];exact r
  cases base with
  |none=>obtain⟨_,rfl⟩:=aQ h6;obtain⟨rfl,hc,rfl⟩:=gy ha;refine⟨ρ,w,.int .i64 (Nat.min n 0:Nat),by rw[k2];exact Ext.refl _ _ _,?_,by simp only[VR],r2,bp.refl _ _⟩;simp only[Builtin.copy_,h1,show(#[Value.slice none 0 0,vb]:Array Value)[0]? =some (.slice none 0 0) from rfl,show(#[Value.slice none 0 0,vb]:Array Value)[1]? =some vb from rfl,Sem.run_bind,aV e1,Result.andThen_ok,hn,dc h2,k3,Sem.run_pure,goInt]
  |some p=>
   obtain⟨m,i⟩:=p;have hq:∃bb N c,ρ m=some (bb,N)/\va= .slice (some ⟨bb,i,none⟩) len c:=by
    cases cap with
    |known c=>simp only[VR] at ha;obtain⟨bb,N,e,rfl⟩:=ha;exact⟨bb,N,c,e,rfl⟩
    |aU lo e0=>simp only[VR] at ha;obtain⟨bb,N,c,e,rfl,_⟩:=ha;exact⟨bb,N,c,e,rfl⟩
    |lost=>cases h4
   obtain⟨bb,N,c,hm,rfl⟩:=hq;obtain⟨g1,w',g2,g3,g4⟩:=zx (P:=P) bU r2 h6 hm k4;refine⟨ρ,w',.int .i64 (Nat.min n len:Nat),by rw[g1,k2];exact Ext.refl _ _ _,?_,by simp only[VR],g3,g4⟩;simp only[Builtin.copy_,h1,show(#[Value.slice (some ⟨bb,i,none⟩) len c,vb]:Array Value)[0]? =some (.slice (some ⟨bb,i,none⟩) len c) from rfl,show(#[Value.slice (some ⟨bb,i,none⟩) len c,vb]:Array Value)[1]? =some vb from rfl,Sem.run_bind,aV e1,Result.andThen_ok,hn,dc h2,k3,Sem.run_pure,goInt,g2]
theorem Nl{ts:Array TypeId}{a:AV}{va:Value}(ha:VR ρ a va)(fi:aS s)(r:Rel B ρ s.h w)(h:qu P ts a s= .ok x s1):
 eK P B ρ s s1 w x (Builtin.clear_ ts 0 #[va]):=by
 unfold qu at h;have h9:=M.aL h;clear h;obtain⟨sT,s0,h0,h⟩:=h9;obtain⟨h1,v7⟩:=dt h0;clear h0;subst v7;cases e1:P.underlying sT with
 |none=>simp only[e1] at h;cases h
 |some d=>
  cases d<;>simp only[e1] at h<;>first|(cases h;done)|skip
  rename_i elem;cases a<;>first|(cases h;done)|skip
  rename_i base len cap;cases base with
  |none=>obtain⟨rfl,rfl⟩:=aQ h;obtain⟨rfl,hc,rfl⟩:=gy ha;refine⟨ρ,w,undef,Ext.refl _ _ _,?_,VR.undef _,r,bp.refl _ _⟩;simp only[Builtin.clear_,h1,show(#[Value.slice none 0 0]:Array Value)[0]? =some (.slice none 0 0) from rfl,Sem.run_bind,aV e1,Result.andThen_ok,Sem.run_pure];rfl
  |some p=>
   obtain⟨m,i⟩:=p;obtain⟨_,s2,h2,Tv⟩:=M.aL h;obtain⟨z,s3,h3,Tw⟩:=M.aL Tv;obtain⟨h4,yI⟩:=dt h3;obtain⟨u,s4,h5,h6⟩:=M.aL Tw;obtain⟨rfl,rfl⟩:=aQ h6;have hs:s3=s0:=by rw[yI];cases cap<;>first|(cases h2;done)|(obtain⟨_,e⟩:=aQ (show M.pure () s0= .ok _ s2 from h2);exact e)
   rw[hs] at h5;have hq:∃bb N c,ρ m=some (bb,N)/\va= .slice (some ⟨bb,i,none⟩) len c:=by
    cases cap with
    |known c=>simp only[VR] at ha;obtain⟨bb,N,e,rfl⟩:=ha;exact⟨bb,N,c,e,rfl⟩
    |aU lo e0=>simp only[VR] at ha;obtain⟨bb,N,c,e,rfl,_⟩:=ha;exact⟨bb,N,c,e,rfl⟩
    |lost=>cases h2
   obtain⟨bb,N,c,hm,rfl⟩:=hq;obtain⟨vz,g1,g2⟩:=rF (P:=P) (w:=w) ρ h4;have Sj:=B5 (ρ:=ρ) g2.cells len;obtain⟨k1,w',k2,k3,k4⟩:=zx (P:=P) fi r h5 hm Sj;refine⟨ρ,w',undef,by rw[k1];exact Ext.refl _ _ _,?_,VR.undef _,k3,k4⟩;have Sk:(Builtin.zeroCells vz.cells len).toList=(List.replicate len vz.cells.toList).flatten:=by unfold Builtin.zeroCells;rw[G1]
   cases len with
   |zero=>
    simp only[List.replicate,List.flatten_nil] at k2;have yL:Result.ok () w=Result.ok () w':=k2;injection yL with _ yL
    simp only[Builtin.clear_,h1,show(#[Value.slice (some ⟨bb,i,none⟩) 0 c]:Array Value)[0]? =some (.slice (some ⟨bb,i,none⟩) 0 c) from rfl,Sem.run_bind,aV e1,Result.andThen_ok,Sem.run_pure,yL];rfl
   |succ len=>simp only[Builtin.clear_,h1,show(#[Value.slice (some ⟨bb,i,none⟩) (len+1) c]:Array Value)[0]? =some (.slice (some ⟨bb,i,none⟩) (len+1) c) from rfl,Sem.run_bind,aV e1,Result.andThen_ok,Sem.run_pure,g1,Sk,k2];rfl
theorem Nm{m:Nat}{es:List<|AV×AV}{b N:Nat}(fi:aS s)(r:Rel B ρ s.h w)(h:lg m s= .ok es s1)(hm:ρ m=some (b,N)):
 s1.h=s.h/\s1.nx=s.nx/\∃l aM,w.heap[b]? =some (.map l aM)/\my ρ es l.toList/\(gz es\/cH ρ es l.toList):=by
 unfold lg at h;obtain⟨ob,s2,h1,h2⟩:=M.aL h;obtain⟨hx,hg,hh,bq⟩:=eS h1;have ht:m<top:=Nat.lt_of_lt_of_le hx fi.nx;obtain⟨o',hb,hO,_⟩:=r.block ht hg hm;cases ob with
 |map dT aM=>obtain⟨rfl,rfl⟩:=aQ h2;obtain⟨l,rfl,_,k⟩:=hO;exact⟨hh,bq,l,aM,hb,⟨_,List.Perm.refl _,k.eqs⟩,.inr k.eqs⟩
 |cW dT=>obtain⟨rfl,rfl⟩:=aQ h2;obtain⟨l,aM,rfl,ka,_,k⟩:=hO;exact⟨hh,bq,l,aM,hb,k,.inl ka⟩
 |_=>cases h2
theorem cH.length:∀{x:List<|AV×AV} {l:List MapEntry},cH ρ x l->x.length=l.length
 |[],l,k=>by have k':l=[]:=k;subst k';rfl
 |_::_,_,k=>by obtain⟨e,es,rfl,_,_,d⟩:=k;simp[cH.length d]
theorem OM{ts:Array TypeId}{a:AV}{va:Value}(ha:VR ρ a va)(fi:aS s)(r:Rel B ρ s.h w)(h:qL P ts a s= .ok x s1):
    eK P B ρ s s1 w x (Builtin.len_ ts 0 #[va]):=by
  unfold qL at h
  have h9:=M.aL h
  clear h
  obtain⟨sT,s0,h0,h⟩:=h9
  obtain⟨h1,v7⟩:=dt h0
  clear h0
  subst v7
  have qW:(#[va]:Array Value)[0]? =some va:=rfl
  cases e1:P.underlying sT with
  |none=>simp only[e1] at h;cases h
  | some d=>
    have fin:∀n:Nat,(Builtin.len_ ts 0 #[va]).run P w= .ok (goInt n) w->x= .int .i64 n->s1.h=s0.h->s1.nx=s0.nx->eK P B ρ s0 s1 w x (Builtin.len_ ts 0 #[va]):=by
      intro n hr hx hh bq
      subst hx
      exact⟨ρ,w,_,by rw[bq];exact Ext.refl _ _ _,hr,by simp only[VR,goInt],by rw[hh];exact r,bp.refl _ _⟩
    cases d<;>simp only[e1] at h<;>first|(cases h;done)|skip
    case string=>
      cases a<;>first|(cases h;done)|skip
      case str q=>
        obtain⟨rfl,rfl⟩:=aQ h
        simp only[VR] at ha;subst ha
        refine fin _ ?_ rfl rfl rfl
        simp only[Builtin.len_,h1,qW,Sem.run_bind,aV e1,Result.andThen_ok,Sem.run_pure]
      case ph q=>
        obtain⟨rfl,rfl⟩:=aQ h
        simp only[VR] at ha;subst ha
        have gU:(⟨(List.replicate q (0:UInt8)).toArray⟩:ByteArray).size=q:=by simp[ByteArray.size]
        refine fin _ ?_ rfl rfl rfl
        simp only[Builtin.len_,h1,qW,Sem.run_bind,aV e1,Result.andThen_ok,Sem.run_pure,gU]
    case array n e=>
      obtain⟨rfl,rfl⟩:=aQ h
      refine fin _ ?_ rfl rfl rfl
      simp only[Builtin.len_,h1,qW,Sem.run_bind,aV e1,Result.andThen_ok,Sem.run_pure]
    case pointer pt=>
      cases e2:P.underlying pt with
      |none=>simp only[e2] at h;cases h
      | some d=>
        cases d<;>simp only[e2] at h<;>first|(cases h;done)|skip
        obtain⟨rfl,rfl⟩:=aQ h
        refine fin _ ?_ rfl rfl rfl
        simp only[Builtin.len_,h1,qW,Sem.run_bind,aV e1,aV e2,Result.andThen_ok,Sem.run_pure]
    case slice e=>
      cases a<;>first|(cases h;done)|skip
      case slice base len cap=>
        obtain⟨rfl,rfl⟩:=aQ h
        have:∃p c,va= .slice p len c:=by
          cases base with
          |none=>obtain⟨rfl,_,rfl⟩:=gy ha;exact⟨_,_,rfl⟩
          |some p=>obtain⟨m,j⟩:=p;obtain⟨_,_,_,_,_,rfl⟩:=nR ha;exact⟨_,_,rfl⟩
        obtain⟨p,c,rfl⟩:=this
        refine fin _ ?_ rfl rfl rfl
        simp only[Builtin.len_,h1,qW,Sem.run_bind,aV e1,Result.andThen_ok,Sem.run_pure]
      case ch n o len=>
        obtain⟨rfl,rfl⟩:=aQ h
        simp only[VR] at ha
        rcases ha with⟨_,rfl,_,_,rfl,_⟩|⟨b,sh,c,_,rfl,_⟩<;>
        (refine fin _ ?_ rfl rfl rfl
         simp only[Builtin.len_,h1,qW,Sem.run_bind,aV e1,Result.andThen_ok,Sem.run_pure])
    case map kt et=>
      cases a<;>first|(cases h;done)|skip
      rename_i m
      cases m with
      | none=>
        obtain⟨rfl,rfl⟩:=aQ h
        simp only[VR] at ha;subst ha
        refine fin 0 ?_ rfl rfl rfl
        simp only[Builtin.len_,h1,qW,Sem.run_bind,aV e1,Result.andThen_ok,Sem.run_pure]
        rfl
      | some m=>
        obtain⟨es,s2,h2,h3⟩:=M.aL h
        obtain⟨rfl,rfl⟩:=aQ h3
        simp only[VR] at ha
        obtain⟨b,N,hm,rfl⟩:=ha
        obtain⟨g1,g2,l,aM,g3,⟨l',g4,g5⟩,_⟩:=Nm fi r h2 hm
        refine fin _ ?_ rfl g1 g2
        have hl:l.size=es.length:=by rw[g5.length, ←g4.length_eq];simp
        simp only[Builtin.len_,h1,qW,Sem.run_bind,aV e1,Result.andThen_ok,Sem.run_pure,MapKept.run_getObj_map g3,hl]
theorem C1{f:AV->AV->Option AV}{g:Value->Value->Sem Value}(hf:∀a b c va vb,f a b=some c->VR ρ a va->VR ρ b vb->∃vc,(g va vb).run P w= .ok vc w/\VR ρ c vc):
 ∀{l:List AV} {vs:List Value} {a c:AV} {va:Value},uX f l a=some c->av ρ l vs->VR ρ a va->∃vc,(vs.foldlM g va).run P w= .ok vc w/\VR ρ c vc
 |[],vs,a,c,va,h,hl,ha=>by
  simp only[av] at hl;subst hl;simp only[uX] at h;injection h with h;subst h
  exact⟨va,rfl,ha⟩
 |y::l,vs,a,c,va,h,hl,ha=>by
  simp only[av] at hl;obtain⟨v,ys,rfl,hv,hl⟩:=hl;simp only[uX] at h;cases e:f a y with
  |none=>rw[e] at h;cases h
  |some z=>simp only[e] at h;obtain⟨vz,g1,g2⟩:=hf a y z va v e ha hv;obtain⟨vc,g3,g4⟩:=C1 hf h hl g2;exact⟨vc,by simp only[List.foldlM_cons,Sem.run_bind,g1,Result.andThen_ok,g3],g4⟩
theorem ON(a b c:AV)(va vb:Value)(h:min2 a b=some c)(ha:VR ρ a va)(hb:VR ρ b vb):∃vc,(Builtin.min2 va vb).run P w= .ok vc w/\VR ρ c vc:=by
 unfold min2 at h;split at h
 ·rename_i k x k2 y;injection h with h;subst h
  simp only[VR] at ha hb;subst ha;subst hb;refine⟨_,rfl,?_⟩;simp only[VR];by_cases q:y<x<;>simp[q]
 ·cases h
theorem OO(a b c:AV)(va vb:Value)(h:max2 a b=some c)(ha:VR ρ a va)(hb:VR ρ b vb):∃vc,(Builtin.max2 va vb).run P w= .ok vc w/\VR ρ c vc:=by
 unfold max2 at h;split at h
 ·rename_i k x k2 y;injection h with h;subst h
  simp only[VR] at ha hb;subst ha;subst hb;refine⟨_,rfl,?_⟩;simp only[VR];by_cases q:y>x<;>simp[q]
 ·cases h
theorem Mx{b:Builtin}{ts:Array TypeId}{ty:TypeId}{consts:Array Bool}{l:List AV}{vs:Array Value}(hl:av ρ l vs.toList)(fi:aS s)(r:Rel B ρ s.h w)(hf:bL s.nx s1.nx ρ)(h:qd P b ts l s= .ok x s1):dh P B ρ s s1 w x<|Go.builtin b ts ty consts vs:=by
 obtain⟨vs⟩:=vs;unfold qd at h;split at h
 ·rename_i y;simp only[av] at hl;obtain⟨v,ys,rfl,hv,rfl⟩:=hl;exact(OM hv fi r h).op
 ·rename_i y z;simp only[av] at hl;obtain⟨v,ys,rfl,hv,v2,La,rfl,tR,rfl⟩:=hl;exact(Mw hv tR fi r hf h).op
 ·rename_i y z;simp only[av] at hl;obtain⟨v,ys,rfl,hv,v2,La,rfl,tR,rfl⟩:=hl;exact(Nk hv tR fi r h).op
 ·rename_i y;simp only[av] at hl;obtain⟨v,ys,rfl,hv,rfl⟩:=hl;exact(Nl hv fi r h).op
 ·rename_i y z;simp only[av] at hl;obtain⟨v,ys,rfl,hv,hl⟩:=hl;obtain⟨h1,rfl⟩:=dt h;obtain⟨vc,g1,g2⟩:=C1 (P:=P) (w:=w) ON h1 hl hv;exact eK.op (c:=Builtin.min_ ts ty ⟨v::ys⟩) ⟨ρ,w,vc,Ext.refl _ _ _,g1,g2,r,bp.refl _ _⟩
 ·rename_i y z;simp only[av] at hl;obtain⟨v,ys,rfl,hv,hl⟩:=hl;obtain⟨h1,rfl⟩:=dt h;obtain⟨vc,g1,g2⟩:=C1 (P:=P) (w:=w) OO h1 hl hv;exact eK.op (c:=Builtin.max_ ts ty ⟨v::ys⟩) ⟨ρ,w,vc,Ext.refl _ _ _,g1,g2,r,bp.refl _ _⟩
 ·cases h
theorem Nn{ts:Array TypeId}{ty:TypeId}{consts:Array Bool}{y:AV}{n q k:Nat}{vs:Array Value}(dQ:sM B U7)(yM:∀t a,U5<|U7 t a)(hl:av ρ [y,.ch n q k] vs.toList)(fi:aS s)(r:Rel B ρ s.h w)(hf:bL s.nx s1.nx ρ)(h:sq P U7 ts y n q k s= .ok x s1):dh P B ρ s s1 w x<|Go.builtin .append ts ty consts vs:=by obtain⟨vs⟩:=vs;simp only[av] at hl;obtain⟨v,ys,rfl,hv,hl⟩:=hl;obtain⟨v2,La,rfl,tR,rfl⟩:=hl;exact(ML dQ yM hv tR fi r hf h).op
theorem My{b:Builtin}{ts:Array TypeId}{args:Array Operand}(dQ:sM B U7)(yM:∀t a,U5<|U7 t a)(he:∀x v,ar t x=some v->VR ρ v (ev x))(fi:aS s)(r:Rel B ρ s.h w)(hf:bL s.nx s1.nx ρ)(h:iP P b ts args.toList U7 t s= .ok x s1)(ho:o.op= .call ⟨.builtin b,args,ts⟩):dh P B ρ s s1 w x<|execOp ev o:=by
 unfold iP at h;obtain⟨vs,h1,h2⟩:=bd h;have hl:=uF he h1;have key:(∃y n q k,b= .append/\vs=[y,.ch n q k]/\sq P U7 ts y n q k s= .ok x s1)\/qd P b ts vs s= .ok x s1:=by
  split at h2
  ·exact .inl ⟨_,_,_,_,rfl,rfl,h2⟩
  ·exact .inr h2
 have all:∀consts:Array Bool,dh P B ρ s s1 w x<|Go.builtin b ts o.type consts<|args.map ev:=fun consts=>by
  rcases key with⟨y,n,q,k,rfl,rfl,h2⟩|h2
  ·exact Nn dQ yM (by simpa using hl) fi r hf h2
  ·exact Mx (vs:=args.map ev) (by simpa using hl) fi r hf h2
 have:=all (args.map fun| .const _=>true|_=>false);obtain⟨σ,w',nv,a1,a2,a3⟩:=this;refine⟨σ,w',nv,a1,?_,a3⟩;simp only[execOp,ho,resolve,Sem.run_bind,Sem.run_pure,Result.andThen_ok,invoke];exact a2
end
end Go.Rn
namespace Go.Rn
open Go.RowKit
section
variable {P:Program} {B:aH} {ρ:aj} {w:World} {s s1:AS} {x:AV} {U7:aJ} {t:Tr AV} {ev:Operand->Value} {o:Oper}
theorem B2{em:Bool}{d:Nat}{tG:TypeId->AV->Bool}(hc:∀ty a v,tG ty a=true->VR ρ a v->(Instr.checkKey em d ty v).run P w= .ok () w){cs:List AV}{ds:Array Value}(hx:av ρ cs ds.toList):∀{fs:List Field},wP P tG cs fs=true->
 (forIn fs PUnit.unit fun f _=>do
  if f.name≠ "_" then do
   Instr.checkKey em d f.type (←part f.type ds f.offset)
   pure (ForInStep.yield PUnit.unit)
  else pure (ForInStep.yield PUnit.unit):Sem PUnit).run P w= .ok PUnit.unit w
 |[],_=>rfl
 |f::fs,h=>by
  simp only[wP] at h;rw[List.forIn_cons];cases en:(f.name == "_") with
  |true=>
   simp only[en] at h;have:¬(f.name≠ "_"):=by simpa using en
   rw[if_neg this];simp only[Sem.run_bind,Sem.run_pure,Result.andThen_ok];exact B2 hc hx h
  |false=>
   simp only[en] at h;have bS:f.name≠ "_" :=by intro e;rw[e] at en;simp at en
   rw[if_pos bS];cases e1:js P f.type cs f.offset with
   |none=>simp only[e1] at h;cases h
   |some a=>
    simp only[e1] at h;obtain⟨v,g1,g2⟩:=rL (w:=w) hx e1;cases e2:tG f.type a with
    |false=>simp only[e2] at h;cases h
    |true=>simp only[e2] at h;simp only[Sem.run_bind,Sem.run_pure,Result.andThen_ok,g1,hc _ _ _ e2 g2];exact B2 hc hx h
theorem zS{em:Bool}:∀{d:Nat} {ty:TypeId} {a:AV} {v:Value},fV P d ty a=true->VR ρ a v->(Instr.checkKey em d ty v).run P w= .ok () w
 |0,_,_,_,h,_=>by simp only[fV] at h;cases h
 |d+1,ty,a,v,h,ha=>by
  simp only[fV] at h;rw[Instr.checkKey];split at h<;>first|(cases h;done)|skip
  ·rename_i e;simp[aV e]
  ·rename_i e;simp[aV e]
  ·rename_i e;simp[aV e]
  ·rename_i fs cs e;simp only[VR] at ha;obtain⟨ds,rfl,hl⟩:=ha;simp only[Sem.run_bind,aV e,Result.andThen_ok];have:=B2 (P:=P) (w:=w) (em:=em) (d:=d) (fun ty a v h1 h2=>zS h1 h2) hl h;rw[←Array.forIn_toList];simp only[this,Result.andThen_ok,Sem.run_pure]
theorem wJ{a b:AV}{c:Bool}{v u:Value}{kd:TypeDesc}{k:TypeId}(hk:P.underlying k=some kd)(hp:plainKey P k a=true)(h:sameKey a b=some c)(ha:VR ρ a v)(hb:VR ρ b u):Instr.sameNow kd v u=some c:=by
 unfold plainKey at hp;rw[hk] at hp;unfold sameKey at h;split at h<;>first|(cases h;done)|skip
 ·rename_i k1 x1 k2 x2;simp only[VR] at ha hb;subst ha;subst hb;cases E9:decide (k1=k2) with
  |false=>rw[E9] at h;cases h
  |true=>
   rw[E9] at h;injection h with h;subst h
   have:=of_decide_eq_true E9;cases kd<;>first|(cases hp;done)|simp[Instr.sameNow,this]
 ·injection h with h;subst h
  simp only[VR] at ha hb;subst ha;subst hb;cases kd<;>first|(cases hp;done)|simp[Instr.sameNow]
 ·injection h with h;subst h
  simp only[VR] at ha hb;subst ha;subst hb;cases kd<;>first|(cases hp;done)|simp[Instr.sameNow]
def vq(ρ:aj)(es:List<|AV×AV)(l:List MapEntry)(i:Nat):Option (Nat×AV)->Option (Nat×Value)->Prop
 |none,r=>r=none
 |some (j,x),r=>∃y q e,r=some (j,y)/\VR ρ x y/\i<=j/\es[j - i]? =some q/\l[j - i]? =some e/\VR ρ q.1 e.key/\q.2=x/\e.val=y
theorem vq.next{es:List<|AV×AV}{l:List MapEntry}{i:Nat}{p:AV×AV}{e:MapEntry}{r:Option<|Nat×AV}{r':Option<|Nat×Value}(h:vq ρ es l (i+1) r r'):vq ρ (p::es) (e::l) i r r':=by
 cases r with
 |none=>exact h
 |some q=>
  obtain⟨j,x⟩:=q;obtain⟨y,q,e2,h1,h2,h3,h4,h5,h6⟩:=h;refine⟨y,q,e2,h1,h2,by omega,?_,?_,h6⟩
  ·rw[show j - i=(j - (i+1))+1 from by omega];simpa using h4
  ·rw[show j - i=(j - (i+1))+1 from by omega];simpa using h5
theorem Gf{k:TypeId}{kd:TypeDesc}{key:AV}{v:Value}(hk:P.underlying k=some kd)(hp:plainKey P k key=true)(hv:VR ρ key v):∀{es:List<|AV×AV} {l:List MapEntry} {i:Nat} {r:Option<|Nat×AV},
 cH ρ es l->dW key es i=some r->∃r',Instr.findNow kd v l i=some r'/\vq ρ es l i r r'
 |[],l,i,r,he,h=>by
  have yN:l=[]:=he;subst yN;simp only[dW] at h;injection h with h;subst h
  exact⟨none,rfl,rfl⟩
 |(a,b)::es,l,i,r,he,h=>by
  obtain⟨e,l',rfl,h1,h2,h3⟩:=he;simp only[dW] at h;cases q:sameKey key a with
  |none=>rw[q] at h;cases h
  |some c=>
   have:=wJ hk hp q hv h1;cases c with
   |true=>
    simp only[q] at h;injection h with h;subst h
    exact⟨some (i,e.val),by simp only[Instr.findNow,this],e.val,(a,b),e,rfl,h2,Nat.le_refl _,by simp,by simp,h1,rfl,rfl⟩
   |false=>simp only[q] at h;obtain⟨r',g1,g2⟩:=Gf hk hp hv h3 h;exact⟨r',by simp only[Instr.findNow,this];exact g1,g2.next⟩
theorem Gl{k:TypeId}{key:AV}{v:Value}(hv:VR ρ key v):∀{es:List<|AV×AV} {l:List MapEntry} {i:Nat} {r:Option<|Nat×AV},
 cH ρ es l->w4 P k key es i=some r->∃r',(Instr.findAsking k v l i).run P w= .ok r' w/\vq ρ es l i r r'
 |[],l,i,r,he,h=>by
  have yN:l=[]:=he;subst yN;simp only[w4] at h;injection h with h;subst h
  exact⟨none,rfl,rfl⟩
 |(a,b)::es,l,i,r,he,h=>by
  obtain⟨e,l',rfl,h1,h2,h3⟩:=he;simp only[w4] at h;cases q:gS P Op.maxDepth k key a with
  |none=>rw[q] at h;cases h
  |some c=>
   have hq:(Op.equal k v e.key).run P w= .ok c w:=xj q hv h1;cases c with
   |true=>
    simp only[q] at h;injection h with h;subst h
    exact⟨some (i,e.val),by simp[Instr.findAsking,hq],e.val,(a,b),e,rfl,h2,Nat.le_refl _,by simp,by simp,h1,rfl,rfl⟩
   |false=>simp only[q] at h;obtain⟨r',g1,g2⟩:=Gl hv h3 h;exact⟨r',by simp[Instr.findAsking,hq,g1],g2.next⟩
theorem Qk{a:AV}{k:IntKind}{n:Int}(ha:VR ρ a<|.int k n):a= .int k n:=by
 cases a<;>(try simp only[VR] at ha)<;>first|(cases ha;rfl)|(cases ha;done)|skip
 ·rename_i q;cases q<;>simp only[VR] at ha<;>first|(cases ha;done)|(obtain⟨_,_,_,e⟩:=ha;cases e)
 ·rename_i q l c;cases q with
  |none=>obtain⟨_,_,e⟩:=gy ha;cases e
  |some q=>obtain⟨n,i⟩:=q;obtain⟨_,_,_,_,_,e⟩:=nR ha;cases e
 ·rcases ha with⟨_,_,_,_,e,_⟩|⟨_,_,_,_,e,_⟩<;>cases e
 ·obtain⟨_,_,_,e⟩:=ha;cases e
 ·rename_i q;cases q<;>simp only[VR] at ha<;>first|(cases ha;done)|(obtain⟨_,_,_,e⟩:=ha;cases e)
 ·obtain⟨_,_,_,e,_⟩:=ha;cases e
 ·obtain⟨_,_,_,e⟩:=ha;cases e
 ·obtain⟨_,e,_⟩:=ha;cases e
 ·obtain⟨_,e,_⟩:=ha;cases e
 ·obtain⟨_,e,_⟩:=ha;cases e
theorem Ql{a:AV}{q:ByteArray}(hz:jY a=true)(ha:VR ρ a<|.string q):a= .str q:=by
 cases a<;>(try cases hz;done)<;>(try simp only[VR] at ha)<;>first|(cases ha;rfl)|(cases ha;done)|skip
 ·rename_i q;cases q<;>simp only[VR] at ha<;>first|(cases ha;done)|(obtain⟨_,_,_,e⟩:=ha;cases e)
 ·rename_i q l c;cases q with
  |none=>obtain⟨_,_,e⟩:=gy ha;cases e
  |some q=>obtain⟨n,i⟩:=q;obtain⟨_,_,_,_,_,e⟩:=nR ha;cases e
 ·rcases ha with⟨_,_,_,_,e,_⟩|⟨_,_,_,_,e,_⟩<;>cases e
 ·obtain⟨_,_,_,e⟩:=ha;cases e
 ·rename_i q;cases q<;>simp only[VR] at ha<;>first|(cases ha;done)|(obtain⟨_,_,_,e⟩:=ha;cases e)
 ·obtain⟨_,_,_,e,_⟩:=ha;cases e
 ·obtain⟨_,_,_,e⟩:=ha;cases e
 ·obtain⟨_,e,_⟩:=ha;cases e
 ·obtain⟨_,e,_⟩:=ha;cases e
 ·obtain⟨_,e,_⟩:=ha;cases e
theorem IM{a:AV}{b:Bool}(ha:VR ρ a<|.bool b):a= .bool b:=by
 cases a<;>(try simp only[VR] at ha)<;>first|(cases ha;rfl)|(cases ha;done)|skip
 ·rename_i q;cases q<;>simp only[VR] at ha<;>first|(cases ha;done)|(obtain⟨_,_,_,e⟩:=ha;cases e)
 ·rename_i q l c;cases q with
  |none=>obtain⟨_,_,e⟩:=gy ha;cases e
  |some q=>obtain⟨n,i⟩:=q;obtain⟨_,_,_,_,_,e⟩:=nR ha;cases e
 ·rcases ha with⟨_,_,_,_,e,_⟩|⟨_,_,_,_,e,_⟩<;>cases e
 ·obtain⟨_,_,_,e⟩:=ha;cases e
 ·rename_i q;cases q<;>simp only[VR] at ha<;>first|(cases ha;done)|(obtain⟨_,_,_,e⟩:=ha;cases e)
 ·obtain⟨_,_,_,e,_⟩:=ha;cases e
 ·obtain⟨_,_,_,e⟩:=ha;cases e
 ·obtain⟨_,e,_⟩:=ha;cases e
 ·obtain⟨_,e,_⟩:=ha;cases e
 ·obtain⟨_,e,_⟩:=ha;cases e
theorem OP{k:TypeId}{kd:TypeDesc}{key:AV}{v:Value}(hk:P.underlying k=some kd)(hz:jY key=true)(hp:plainKey P k key=false)(hv:VR ρ key v)(u:Value):Instr.sameNow kd v u=none:=by
 cases e:Instr.sameNow kd v u with
 |none=>rfl
 |some c=>
  exfalso;unfold Instr.sameNow at e;unfold plainKey at hp;rw[hk] at hp;split at e<;>first|(cases e;done)|skip
  ·rw[Qk hv] at hp;cases hp
  ·rw[Ql hz hv] at hp;cases hp
  ·rw[IM hv] at hp;cases hp
theorem Jq{key:AV}{o:Option<|Option<|Nat×AV}{r:Option<|Nat×AV}(h:(match jY key with|false=>none|true=>o)=some r):jY key=true:=by
 cases hz:jY key with
 |false=>rw[hz] at h;cases h
 |true=>rfl
theorem GF{k:TypeId}{kd:TypeDesc}{key:AV}{v:Value}{es:List<|AV×AV}{l:List MapEntry}{r:Option<|Nat×AV}(hk:P.underlying k=some kd)(hv:VR ρ key v)(he:cH ρ es l)(h:findKey P k key es=some r):
 ∃r',(Instr.findKey k v l).run P w= .ok r' w/\vq ρ es l 0 r r':=by
 unfold findKey at h;cases hz:jY key with
 |false=>rw[hz] at h;cases h
 |true=>
 simp only[hz] at h;cases hp:plainKey P k key with
 |true=>simp only[hp] at h;obtain⟨r',g1,g2⟩:=Gf hk hp hv he h;exact⟨r',MapKept.run_findKey hk g1,g2⟩
 |false=>
  simp only[hp] at h;obtain⟨r',g1,g2⟩:=Gl (P:=P) (w:=w) hv he h;refine⟨r',?_,g2⟩;cases l with
  |nil=>
   have pK:Result.ok none w=Result.ok r' w:=g1;injection pK with pK;subst pK
   exact MapKept.run_findKey hk rfl
  |cons e l=>
   have:Instr.findNow kd v (e::l) 0=none:=by simp only[Instr.findNow,OP hk hz hp hv e.key]
   simp only[Instr.findKey,Sem.run_bind,aV hk,Result.andThen_ok,this];exact g1
theorem BZ{key:AV}:∀{es:List<|AV×AV} {i:Nat},dW key es i=some none->∀p∈es,sameKey key p.1=some false
 |[],_,_,p,hp=>by cases hp
 |(a,b)::es,i,h,p,hp=>by
  simp only[dW] at h;cases q:sameKey key a with
  |none=>rw[q] at h;cases h
  |some c=>
   cases c with
   |true=>simp only[q] at h;cases h
   |false=>
    simp only[q] at h;rcases List.mem_cons.1 hp with rfl|hp
    ·exact q
    ·exact BZ h p hp
theorem F9{key:AV}:∀{es:List<|AV×AV} {i j:Nat} {x:AV},dW key es i=some (some (j,x))->i<=j/\∃q,es[j - i]? =some q/\q.2=x/\sameKey key q.1=some true
 |[],_,_,_,h=>by simp[dW] at h
 |(a,b)::es,i,j,x,h=>by
  simp only[dW] at h;cases q:sameKey key a with
  |none=>rw[q] at h;cases h
  |some c=>
   cases c with
   |true=>
    simp only[q] at h;injection h with h;injection h with h;injection h with h1 h2;subst h1;subst h2
    exact⟨Nat.le_refl _,(a,b),by simp,rfl,q⟩
   |false=>simp only[q] at h;obtain⟨h1,p,h2,h3⟩:=F9 h;refine⟨by omega,p,?_,h3⟩;rw[show j - i=(j - (i+1))+1 from by omega];simpa using h2
end
end Go.Rn
namespace Go.Rn
open Go.RowKit
theorem B7{a b:AV}(h:sameKey a b=some true)(c:AV):sameKey a c=sameKey b c:=by
 unfold sameKey at h;split at h<;>first|(cases h;done)|skip
 ·rename_i k x k' y;cases hk:decide (k=k') with
  |false=>rw[hk] at h;cases h
  |true=>
   rw[hk] at h;injection h with h
   have e1:=of_decide_eq_true hk;have e2:x=y:=by simpa using h
   rw[e1,e2]
 ·rename_i x y;injection h with h
  rw[bytes_beq] at h;have e:x.toList=y.toList:=by simpa using h
  cases c<;>first|rfl|simp only[sameKey,bytes_beq,e]
 ·rename_i x y;injection h with h
  have e:x=y:=by simpa using h
  rw[e]
theorem zB(a b:AV):sameKey a b=sameKey b a:=by
 cases a<;>cases b<;>first|rfl|skip
 ·rename_i x y;cases x<;>cases y<;>rfl
 ·rename_i k x k' y;by_cases e:k=k'
  ·subst e;show(match decide (k=k) with|true=>some (x == y)|false=>none)=(match decide (k=k) with|true=>some (y == x)|false=>none);rw[decide_eq_true (rfl:k=k)];show some (x == y)=some (y == x);rw[BEq.comm]
  ·show(match decide (k=k') with|true=>some (x == y)|false=>none)=(match decide (k'=k) with|true=>some (y == x)|false=>none);rw[decide_eq_false e,decide_eq_false<|Ne.symm e]
 ·rename_i x y;show some (x == y)=some (y == x);rw[bytes_beq,bytes_beq,BEq.comm]
theorem gz.at{es:List<|AV×AV}(h:gz es){i j:Nat}{p q:AV×AV}(hi:es[i]? =some p)(hj:es[j]? =some q)(bS:i≠j):sameKey p.1 q.1=some false:=by
 unfold gz at h;rw[List.pairwise_iff_getElem] at h;obtain⟨li,ei⟩:=List.getElem?_eq_some_iff.1 hi;obtain⟨lj,ej⟩:=List.getElem?_eq_some_iff.1 hj;rcases Nat.lt_or_ge i j with q'|q'
 ·have:=(h i j li lj q').1;rw[ei,ej] at this;exact this
 ·have:=(h j i lj li<|by omega).2;rw[ei,ej] at this;exact this
theorem Cp{ρ:aj}{a b:AV}{v u:Value}(h:sameKey a b=some true)(ha:VR ρ a v)(hb:VR ρ b u)(m:Nat):Instr.sameBits m v u=true:=by
 unfold sameKey at h;split at h<;>first|(cases h;done)|skip
 ·rename_i k x k' y;cases hk:decide (k=k') with
  |false=>rw[hk] at h;cases h
  |true=>
   rw[hk] at h;injection h with h
   simp only[VR] at ha hb;subst ha;subst hb;have e1:=of_decide_eq_true hk;subst e1;cases m<;>simpa[Instr.sameBits] using h
 ·injection h with h
  simp only[VR] at ha hb;subst ha;subst hb;cases m<;>simpa[Instr.sameBits] using h
 ·injection h with h
  simp only[VR] at ha hb;subst ha;subst hb;cases m<;>simpa[Instr.sameBits] using h
theorem GG{ρ:aj}(m:Nat):∀{xs ys:List AV} {vs us:List Value},lY xs ys=true->av ρ xs vs->av ρ ys us->vs.length=us.length/\((vs.zip us).all fun(x,y)=>Instr.sameBits m x y)=true
 |[],[],vs,us,_,h1,h2=>by simp only[av] at h1 h2;subst h1;subst h2;simp
 |[],_::_,_,_,h,_,_=>by simp[lY] at h
 |_::_,[],_,_,h,_,_=>by simp[lY] at h
 |x::xs,y::ys,vs,us,h,h1,h2=>by
  simp only[av] at h1 h2;obtain⟨v,vs,rfl,a1,b1⟩:=h1;obtain⟨u,us,rfl,a2,b2⟩:=h2;simp only[lY] at h;cases e:sameKey x y with
  |none=>rw[e] at h;cases h
  |some c=>
   cases c with
   |false=>rw[e] at h;cases h
   |true=>rw[e] at h;obtain⟨p,q⟩:=GG m h b1 b2;exact⟨by simp[p],by simp only[List.zip_cons_cons,List.all_cons,Cp e a1 a2 m,Bool.true_and];exact q⟩
theorem Mz{ρ:aj}{a b:AV}{v u:Value}(h:sameBits a b=true)(ha:VR ρ a v)(hb:VR ρ b u)(m:Nat):Instr.sameBits (m+1) v u=true:=by
 unfold sameBits at h;split at h
 ·rename_i xs ys;simp only[VR] at ha hb;obtain⟨vs,rfl,h1⟩:=ha;obtain⟨us,rfl,h2⟩:=hb;obtain⟨p,q⟩:=GG m h h1 h2;simp only[Instr.sameBits,Bool.and_eq_true,beq_iff_eq];exact⟨by simpa using p,q⟩
 ·split at h
  ·rename_i e;exact Cp e ha hb _
  ·cases h
theorem Hu{P:Program}{w:World}{v u:Value}(h:Instr.sameBits 10000 v u=true):(Instr.keyThatStays v u).run P w= .ok u w:=by simp[Instr.keyThatStays,h]
theorem Gm{kd:TypeDesc}{v:Value}:∀{l:List MapEntry} {i:Nat},(∀e∈l,Instr.sameNow kd v e.key=some false)->Instr.findNow kd v l i=some none
 |[],_,_=>rfl
 |e::l,i,h=>by simp only[Instr.findNow,h e List.mem_cons_self];exact Gm fun e he=>h e<|List.mem_cons_of_mem _ he
theorem Gn{kd:TypeDesc}{v:Value}:∀{l:List MapEntry} {i:Nat},(∀e∈l,∃c,Instr.sameNow kd v e.key=some c)->(∃e∈l,Instr.sameNow kd v e.key=some true)->
 ∃j e,l[j]? =some e/\Instr.sameNow kd v e.key=some true/\Instr.findNow kd v l i=some (some (i+j,e.val))
 |[],_,_,h=>by obtain⟨_,h,_⟩:=h;cases h
 |e::l,i,h,k=>by
  obtain⟨c,hc⟩:=h e List.mem_cons_self;cases c with
  |true=>exact⟨0,e,rfl,hc,by simp only[Instr.findNow,hc,Nat.add_zero]⟩
  |false=>
   obtain⟨e2,h2,h3⟩:=k;have kP:e2∈l:=by
    rcases List.mem_cons.1 h2 with rfl|h2
    ·rw[hc] at h3;cases h3
    ·exact h2
   obtain⟨j,e3,g1,g2,g3⟩:=Gn (i:=i+1) (fun e he=>h e<|List.mem_cons_of_mem _ he) ⟨e2,kP,h3⟩;exact⟨j+1,e3,by simpa using g1,g2,by simp only[Instr.findNow,hc];rw[g3];congr 3;omega⟩
section
variable {P:Program} {B:aH} {ρ:aj} {w:World} {s s1:AS} {x:AV} {U7:aJ} {t:Tr AV} {ev:Operand->Value} {o:Oper}
theorem cH.get:∀{es:List<|AV×AV} {l:List MapEntry} {i:Nat} {e:MapEntry},cH ρ es l->l[i]? =some e->∃p,es[i]? =some p/\VR ρ p.1 e.key/\VR ρ p.2 e.val
 |[],l,i,e,h,k=>by have h':l=[]:=h;subst h';simp at k
 |p::es,l,i,e,h,k=>by
  obtain⟨e2,l2,rfl,h1,h2,h3⟩:=h;cases i with
  |zero=>simp at k;subst k;exact⟨p,rfl,h1,h2⟩
  |succ i=>simp at k;obtain⟨q,g1,g2⟩:=h3.get k;exact⟨q,by simpa using g1,g2⟩
theorem cH.get'{es:List<|AV×AV}{l:List MapEntry}{i:Nat}{p:AV×AV}(h:cH ρ es l)(k:es[i]? =some p):∃e,l[i]? =some e/\VR ρ p.1 e.key/\VR ρ p.2 e.val:=by obtain⟨li,ei⟩:=List.getElem?_eq_some_iff.1 k;have hl:=h.length;have hi:l[i]? =some (l[i]'(by omega)):=List.getElem?_eq_getElem _;obtain⟨q,g1,g2⟩:=h.get hi;rw[k] at g1;cases g1;exact⟨_,hi,g2⟩
theorem GH{k:TypeId}{kd:TypeDesc}{key:AV}{v:Value}{es:List<|AV×AV}{l l':List MapEntry}{r:Option<|Nat×AV}(hk:P.underlying k=some kd)(hp:plainKey P k key=true)(hv:VR ρ key v)(ka:gz es)(he:cH ρ es l')(hl:l.Perm l')(h:dW key es 0=some r):
 (r=none->Instr.findNow kd v l 0=some none)/\(∀j y,r=some (j,y)->∃j' e,Instr.findNow kd v l 0=some (some (j',e.val))/\l[j']? =some e/\l'[j]? =some e/\VR ρ y e.val/\∃p,es[j]? =some p/\sameKey key p.1=some true):=by
 have I:∀e∈l,∃(j:Nat) (p:AV×AV),l'[j]? =some e/\es[j]? =some p/\VR ρ p.1 e.key/\VR ρ p.2 e.val:=by
  intro e hm;obtain⟨j,hj,e1⟩:=List.getElem_of_mem<|hl.mem_iff.1 hm;have mE:l'[j]? =some e:=by rw[List.getElem?_eq_getElem hj,e1]
  obtain⟨p,g1,g2,g3⟩:=he.get mE;exact⟨j,p,mE,g1,g2,g3⟩
 constructor
 ·intro hr;subst hr;refine Gm fun e hm=>?_;obtain⟨j,p,g1,g2,g3,g4⟩:=I e hm;exact wJ hk hp (BZ h p<|List.mem_of_getElem? g2) hv g3
 ·intro j y hr;subst hr;obtain⟨_,q,h1,h2,h3⟩:=F9 h;rw[Nat.sub_zero] at h1;have all:∀e∈l,∃(j2:Nat) (p:AV×AV),l'[j2]? =some e/\es[j2]? =some p/\VR ρ p.2 e.val/\Instr.sameNow kd v e.key=some (decide<|j2=j):=by
   intro e hm;obtain⟨j2,p,g1,g2,g3,g4⟩:=I e hm;refine⟨j2,p,g1,g2,g4,?_⟩;by_cases e2:j2=j
   ·subst e2;rw[h1] at g2;cases g2;simp only[decide_true];exact wJ hk hp h3 hv g3
   ·rw[decide_eq_false e2];refine wJ hk hp ?_ hv g3;rw[B7 h3];exact ka.at h1 g2<|Ne.symm e2
  obtain⟨e0,g1,g2,g3⟩:=he.get' h1;have qX:e0∈l:=hl.mem_iff.2<|List.mem_of_getElem? g1;obtain⟨j',e,f1,f2,f3⟩:=Gn (kd:=kd) (v:=v) (l:=l) (i:=0) (fun e hm=>let ⟨_,_,_,_,_,h⟩:=all e hm;⟨_,h⟩) ⟨e0,qX,wJ hk hp h3 hv g2⟩;rw[Nat.zero_add] at f3;obtain⟨j2,p,a1,a2,a3,a4⟩:=all e<|List.mem_of_getElem? f1;rw[f2] at a4;injection a4 with a4
  have e2:j2=j:=by simpa using a4.symm
  subst e2;rw[h1] at a2;cases a2;exact⟨j',e,f3,f1,a1,by rw[←h2];exact a3,q,h1,h3⟩
theorem No{es:List<|AV×AV}{l l':List MapEntry}(h:short es=true)(he:cH ρ es l')(hl:l.Perm l'):cH ρ es l:=by
 have hlen:=he.length;unfold short at h;split at h<;>first|(cases h;done)|skip
 ·have:l'=[]:=by cases l'<;>first|rfl|simp at hlen
  subst this;rw[List.perm_nil.1 hl];exact he
 ·match l',hlen,hl,he with
  |[e],_,hl,he=>rw[List.perm_singleton.1 hl];exact he
theorem VR.ow{ok b:Bool}{y:AV}{v:Value}(h:VR ρ y v):VR ρ (ow ok y b) (if ok=true then .tuple #[v,.bool b] else v):=by
 cases ok with
 |false=>exact h
 |true=>simp only[Rn.ow,if_true,VR,av];exact⟨_,rfl,v,_,rfl,h,.bool b,_,rfl,rfl,rfl⟩
theorem Cq:∀{d:Nat} {k:TypeId} {key:AV},fV P d k key=true->∃kd,P.underlying k=some kd
 |0,_,_,h=>by simp only[fV] at h;cases h
 |d+1,k,key,h=>by
  simp only[fV] at h;cases q:P.underlying k with
  |none=>rw[q] at h;cases h
  |some kd=>exact⟨kd,rfl⟩
theorem MM{ty:TypeId}{a key:AV}{ok:Bool}{va vk:Value}(ha:VR ρ a va)(kB:VR ρ key vk)(fi:aS s)(r:Rel B ρ s.h w)(h:kY P ty a key ok s= .ok x s1):
 eK P B ρ s s1 w x (Instr.lookup ty va vk ok):=by
 unfold kY at h;cases e1:P.underlying ty with
 |none=>simp only[e1] at h;cases h
 |some d=>
  cases d<;>simp only[e1] at h<;>first|(cases h;done)|skip
  rename_i k e;obtain⟨es,s2,h1,h2⟩:=M.aL h;obtain⟨h3,h4⟩:=bP h2;obtain⟨f,h5,h6⟩:=bd h4;have mG:∃kd,P.underlying k=some kd:=by exact Cq h3
  obtain⟨kd,mG⟩:=mG;have oA:∀em,(Instr.checkKey em 10000 k vk).run P w= .ok () w:=fun em=>zS h3 kB;have main:∃l:Array MapEntry,((va= .map none/\l= #[])\/∃b aM,va= .map (some b)/\w.heap[b]? =some (.map l aM))/\s2.h=s.h/\s2.nx=s.nx/\
   ∃r',(Instr.findKey k vk l.toList).run P w= .ok r' w/\(f=none->r'=none)/\(∀j y,f=some (j,y)->∃j' z,r'=some (j',z)/\VR ρ y z):=by
   have exact:∀l:Array MapEntry,cH ρ es l.toList->∃r',(Instr.findKey k vk l.toList).run P w= .ok r' w/\(f=none->r'=none)/\(∀j y,f=some (j,y)->∃j' z,r'=some (j',z)/\VR ρ y z):=by intro l he;obtain⟨r',g1,g2⟩:=GF (P:=P) (w:=w) mG kB he h5;refine⟨r',g1,fun q=>by subst q;exact g2,fun j y q=>?_⟩;subst q;obtain⟨z,_,_,q1,q2,_⟩:=g2;exact⟨j,z,q1,q2⟩
   unfold nZ at h1;split at h1
   ·obtain⟨rfl,rfl⟩:=aQ h1;simp only[VR] at ha;subst ha;exact⟨#[],.inl ⟨rfl,rfl⟩,rfl,rfl,exact #[] rfl⟩
   ·rename_i m;obtain⟨ob,s3,h7,h8⟩:=M.aL h1;obtain⟨hx,hg,hh,bq⟩:=eS h7;have ht:m<top:=Nat.lt_of_lt_of_le hx fi.nx;simp only[VR] at ha;obtain⟨b,N,hm,rfl⟩:=ha;obtain⟨o',hb,hO,_⟩:=r.block ht hg hm;cases ob with
    |map dT aM=>obtain⟨rfl,rfl⟩:=aQ h8;obtain⟨l,rfl,_,q⟩:=hO;exact⟨l,.inr ⟨b,aM,rfl,hb⟩,hh,bq,exact l q.eqs⟩
    |cW dT=>
     obtain⟨h9,dU⟩:=bP h8;obtain⟨rfl,rfl⟩:=aQ dU;obtain⟨l,aM,rfl,ka,_,l',hp,he⟩:=hO;refine⟨l,.inr ⟨b,aM,rfl,hb⟩,hh,bq,?_⟩;cases q:plainKey P k key with
     |false=>rw[q] at h9;exact exact l<|No h9 he hp
     |true=>
      unfold findKey at h5;have hz:jY _=true:=Jq h5;simp only[hz] at h5;simp only[q] at h5;obtain⟨g1,g2⟩:=GH mG q kB ka he hp h5;cases f with
      |none=>exact⟨none,MapKept.run_findKey mG<|g1 rfl,(fun _=>rfl),(fun j y e=>by cases e)⟩
      |some p=>obtain⟨j,y⟩:=p;obtain⟨j',e,f1,_,_,f2,_⟩:=g2 j y rfl;exact⟨some (j',e.val),MapKept.run_findKey mG f1,(fun e=>by cases e),(fun j y e2=>by cases e2;exact⟨j',_,rfl,f2⟩)⟩
    |_=>cases h8
   ·cases h1
  obtain⟨l,m1,m2,m3,r',m4,m5,m6⟩:=main;cases f with
  |some p=>
   obtain⟨j,y⟩:=p;obtain⟨rfl,rfl⟩:=aQ h6;obtain⟨j',z,rfl,hz⟩:=m6 j y rfl;refine⟨ρ,w,_,by rw[m3];exact Ext.refl _ _ _,?_,hz.ow,by rw[m2];exact r,bp.refl _ _⟩;rcases m1 with⟨rfl,rfl⟩|⟨b,aM,rfl,hb⟩
   ·simp only[Instr.lookup,Sem.run_bind,aV e1,Result.andThen_ok,oA,m4,Sem.run_pure]
   ·simp only[Instr.lookup,Sem.run_bind,aV e1,Result.andThen_ok,MapKept.run_getObj_map hb,oA,m4,Sem.run_pure]
  |none=>
   obtain⟨z,h7,h8⟩:=bd h6;obtain⟨rfl,rfl⟩:=aQ h8;have:=m5 rfl;subst this;obtain⟨vz,g1,g2⟩:=rF (P:=P) (w:=w) ρ h7;refine⟨ρ,w,_,by rw[m3];exact Ext.refl _ _ _,?_,g2.ow,by rw[m2];exact r,bp.refl _ _⟩;rcases m1 with⟨rfl,rfl⟩|⟨b,aM,rfl,hb⟩
   ·simp only[Instr.lookup,Sem.run_bind,aV e1,Result.andThen_ok,oA,m4,Sem.run_pure,g1]
   ·simp only[Instr.lookup,Sem.run_bind,aV e1,Result.andThen_ok,MapKept.run_getObj_map hb,oA,m4,Sem.run_pure,g1]
theorem MN{ty:TypeId}{y z:Operand}{ok:Bool}(he:∀x v,ar t x=some v->VR ρ v (ev x))(fi:aS s)(r:Rel B ρ s.h w)(h:kZ P ty y z ok U7 t s= .ok x s1)(ho:o.op= .lookup ty y z ok):dh P B ρ s s1 w x<|execOp ev o:=by unfold kZ at h;obtain⟨a,h1,h2⟩:=bd h;obtain⟨b,h3,h4⟩:=bd h2;have:=(MM (P:=P) (he y a h1) (he z b h3) fi r h4).op;simpa only[execOp,ho] using this
end
end Go.Rn
namespace Go.Rn
open Go.RowKit
theorem Hv:∀(es:List<|AV×AV) (i j:Nat) (k v:AV),(putAt es i k v)[j]? =if j=i then(es[j]?).map (fun _=>(k,v)) else es[j]?
 |[],i,j,k,v=>by simp[putAt]
 |p::es,0,j,k,v=>by cases j<;>simp[putAt]
 |p::es,i+1,j,k,v=>by
  cases j with
  |zero=>simp[putAt]
  |succ j=>simp[putAt,Hv es i j k v]
theorem Gp:∀(es:List<|AV×AV) (i:Nat) (k v:AV),(putAt es i k v).length=es.length
 |[],_,_,_=>rfl
 |_::_,0,_,_=>rfl
 |_::es,i+1,k,v=>by simp[putAt,Gp es i k v]
def lV(k v:Value)(e:MapEntry):MapEntry:={e with key:=k,val:=v}
theorem fq.put{ρ:aj}{key val:AV}{vk vv:Value}(hk:VR ρ key vk)(hv:VR ρ val vv):∀{es:List<|AV×AV} {l:List MapEntry} {n i:Nat},fq ρ es l n->fq ρ (putAt es i key val) (l.modify i<|lV vk vv) n
 |[],l,n,i,h=>by have h':l=[]:=h;subst h';cases i<;>rfl
 |p::es,l,n,0,h=>by obtain⟨e,l',rfl,a,b,c,d⟩:=h;exact⟨lV vk vv e,l',rfl,hk,hv,c,d⟩
 |p::es,l,n,i+1,h=>by obtain⟨e,l',rfl,a,b,c,d⟩:=h;exact⟨e,l'.modify i<|lV vk vv,rfl,a,b,c,d.put hk hv⟩
theorem cH.put{ρ:aj}{key val:AV}{vk vv:Value}(hk:VR ρ key vk)(hv:VR ρ val vv):∀{es:List<|AV×AV} {l:List MapEntry} {i:Nat},cH ρ es l->cH ρ (putAt es i key val) (l.modify i<|lV vk vv)
 |[],l,i,h=>by have h':l=[]:=h;subst h';cases i<;>rfl
 |p::es,l,0,h=>by obtain⟨e,l',rfl,a,b,d⟩:=h;exact⟨lV vk vv e,l',rfl,hk,hv,d⟩
 |p::es,l,i+1,h=>by obtain⟨e,l',rfl,a,b,d⟩:=h;exact⟨e,l'.modify i<|lV vk vv,rfl,a,b,d.put hk hv⟩
theorem fq.push{ρ:aj}{key val:AV}{e:MapEntry}(hk:VR ρ key e.key)(hv:VR ρ val e.val):∀{es:List<|AV×AV} {l:List MapEntry} {n:Nat},fq ρ es l n->e.born=n+es.length->fq ρ (es++[(key,val)]) (l++[e]) n
 |[],l,n,h,hb=>by have h':l=[]:=h;subst h';exact⟨e,[],rfl,hk,hv,hb,rfl⟩
 |p::es,l,n,h,hb=>by obtain⟨e2,l',rfl,a,b,c,d⟩:=h;exact⟨e2,l'++[e],rfl,a,b,c,d.push hk hv (by simp at hb;omega)⟩
theorem cH.push{ρ:aj}{key val:AV}{e:MapEntry}(hk:VR ρ key e.key)(hv:VR ρ val e.val):∀{es:List<|AV×AV} {l:List MapEntry},cH ρ es l->cH ρ (es++[(key,val)]) (l++[e])
 |[],l,h=>by have h':l=[]:=h;subst h';exact⟨e,[],rfl,hk,hv,rfl⟩
 |p::es,l,h=>by obtain⟨e2,l',rfl,a,b,d⟩:=h;exact⟨e2,l'++[e],rfl,a,b,d.push hk hv⟩
theorem gz.of{es:List<|AV×AV}(h:∀(i j:Nat) (p q:AV×AV),i≠j->es[i]? =some p->es[j]? =some q->sameKey p.1 q.1=some false):gz es:=by unfold gz;rw[List.pairwise_iff_getElem];intro i j hi hj dp;exact⟨h i j _ _ (by omega) (List.getElem?_eq_getElem hi)<|List.getElem?_eq_getElem hj,h j i _ _ (by omega) (List.getElem?_eq_getElem hj)<|List.getElem?_eq_getElem hi⟩
theorem gz.put{es:List<|AV×AV}(h:gz es){i:Nat}{p:AV×AV}{key val:AV}(hi:es[i]? =some p)(hk:sameKey key p.1=some true):gz<|putAt es i key val:=by
 refine gz.of fun j k a b Tx ha hb=>?_;rw[Hv] at ha hb;by_cases e1:j=i
 ·have e2:k≠i:=by omega
  rw[if_pos e1,e1,hi] at ha;rw[if_neg e2] at hb;simp only[Option.map_some,Option.some.injEq] at ha;rw[←ha];show sameKey key b.1=some false;rw[B7 hk];exact h.at hi hb<|Ne.symm e2
 ·rw[if_neg e1] at ha;by_cases e2:k=i
  ·rw[if_pos e2,e2,hi] at hb;simp only[Option.map_some,Option.some.injEq] at hb;rw[←hb];show sameKey a.1 key=some false;rw[zB,B7 hk];exact h.at hi ha<|Ne.symm e1
  ·rw[if_neg e2] at hb;exact h.at ha hb Tx
theorem gz.push{es:List<|AV×AV}(h:gz es){key val:AV}(hk:∀p∈es,sameKey key p.1=some false):gz<|es++[(key,val)]:=by unfold gz at h ⊢;rw[List.pairwise_append];refine⟨h,by simp,fun a ha b hb=>?_⟩;simp only[List.mem_singleton] at hb;subst hb;exact⟨by rw[zB];exact hk a ha,hk a ha⟩
theorem C2{α:Type}(f:α->α):∀{l:List α} {j:Nat} {e:α},l[j]? =some e->l.Perm (e::l.eraseIdx j)/\(l.modify j f).Perm (f e::l.eraseIdx j)
 |[],j,e,h=>by simp at h
 |a::l,0,e,h=>by simp at h;subst h;exact⟨List.Perm.refl _,List.Perm.refl _⟩
 |a::l,j+1,e,h=>by
  simp at h;obtain⟨p,q⟩:=C2 f h;refine⟨?_,?_⟩
  ·exact(p.cons a).trans<|List.Perm.swap _ _ _
  ·rw[List.modify_succ_cons];exact(q.cons a).trans<|List.Perm.swap _ _ _
theorem NS{α:Type}(f:α->α){l l':List α}{i j:Nat}{e:α}(hl:l.Perm l')(hi:l[i]? =some e)(hj:l'[j]? =some e):(l.modify i f).Perm<|l'.modify j f:=by obtain⟨p,q⟩:=C2 f hi;obtain⟨p',q'⟩:=C2 f hj;have:=((p.symm.trans hl).trans p').cons_inv;exact(q.trans<|this.cons _).trans q'.symm
theorem Cg(k v:Value):∀(l:List MapEntry) (i:Nat),(l.modify i<|lV k v).map (·.born)=l.map (·.born)
 |[],i=>by cases i<;>rfl
 |e::l,0=>rfl
 |e::l,i+1=>by rw[List.modify_succ_cons];simp[Cg k v l i]
theorem l4.modify{l:List MapEntry}{aM:Nat}(h:l4 l aM)(k v:Value)(i:Nat):l4 (l.modify i<|lV k v) aM:=by refine⟨by rw[Cg];exact h.1,fun e he=>?_⟩;have:e.born∈(l.modify i<|lV k v).map (·.born):=List.mem_map_of_mem he;rw[Cg] at this;obtain⟨e2,h2,h3⟩:=List.mem_map.1 this;rw[←h3];exact h.2 e2 h2
theorem l4.push{l:List MapEntry}{aM:Nat}(h:l4 l aM){e:MapEntry}(he:e.born=aM):l4 (l++[e])<|aM+1:=by
 refine⟨?_,fun e2 h2=>?_⟩
 ·rw[List.map_append,List.nodup_append];refine⟨h.1,by simp,fun a ha b hb=>?_⟩;simp only[List.map_cons,List.map_nil,List.mem_singleton] at hb;obtain⟨e2,h2,h3⟩:=List.mem_map.1 ha;have:=h.2 e2 h2;omega
 ·rcases List.mem_append.1 h2 with h2|h2
  ·have:=h.2 e2 h2;omega
  ·simp only[List.mem_singleton] at h2;subst h2;omega
section
variable {P:Program} {B:aH} {ρ:aj} {w:World} {s s1:AS} {x:AV} {U7:aJ} {t:Tr AV} {ev:Operand->Value} {o:Oper}
theorem rG{w:World}{b:Nat}{o o':Obj}(hb:w.heap[b]? =some o):
 o7 b w {w with heap:=w.heap.setIfInBounds b o'}/\({w with heap:=w.heap.setIfInBounds b o'}:World).heap[b]? =some o':=by
 refine⟨⟨rfl,rfl,rfl,by simp,fun k hk=>?_⟩,?_⟩
 ·show(w.heap.setIfInBounds b o')[k]? =w.heap[k]?;rw[Array.getElem?_setIfInBounds_ne<|by omega]
 ·show(w.heap.setIfInBounds b o')[b]? =some o';exact Array.getElem?_setIfInBounds_self_of_lt<|fU hb
theorem Np{ty:TypeId}{m key val:AV}{vm vk vv:Value}{u:Unit}(hm:VR ρ m vm)(kB:VR ρ key vk)(iG:VR ρ val vv)(fi:aS s)(r:Rel B ρ s.h w)(h:jP P ty m key val s= .ok u s1):
 s1.nx=s.nx/\∃w',(Instr.mapUpdate ty vm vk vv).run P w= .ok () w'/\Rel B ρ s1.h w'/\bp B w w':=by
 unfold jP at h;cases e1:P.underlying ty with
 |none=>simp only[e1] at h;cases h
 |some d=>
  cases d<;>simp only[e1] at h<;>first|(cases h;done)|skip
  rename_i k e;cases m<;>first|(cases h;done)|skip
  rename_i q;cases q with
  |none=>cases h
  |some n=>
   simp only[VR] at hm;obtain⟨b,N,hn,rfl⟩:=hm;obtain⟨ob,s2,h1,h2⟩:=M.aL h;obtain⟨hx,hg,hh,bq⟩:=eS h1;have ht:n<top:=Nat.lt_of_lt_of_le hx fi.nx;obtain⟨o',hb,hO,hB⟩:=r.block ht hg hn;cases ob with
   |map es aM=>
    obtain⟨h3,h4⟩:=bP h2;obtain⟨f,h5,h6⟩:=bd h4;obtain⟨l,rfl,uZ,he⟩:=hO;obtain⟨kd,mG⟩:=Cq h3;have oA:∀em,(Instr.checkKey em 10000 k vk).run P w= .ok () w:=fun em=>zS h3 kB;obtain⟨r',g1,g2⟩:=GF (P:=P) (w:=w) mG kB he.eqs h5;cases f with
    |some p=>
     obtain⟨j,y⟩:=p;obtain⟨z,q,e0,rfl,_,_,q1,q2,q3,_,_⟩:=g2;rw[Nat.sub_zero] at q1 q2;obtain⟨bJ,h7,h8⟩:=bd (show(aG es[j]? fun bJ=>aB (sameBits bJ.1 key) <| ba n<|some<|.map (putAt es j key val) aM) s2= .ok u s1 from h6);obtain⟨h9,dU⟩:=bP h8;rw[q1] at h7;cases h7;have D8:=Mz h9 q3 kB 9999;obtain⟨_,_,_,i1,i2⟩:=hY dU;obtain⟨g3,g4⟩:=rG (o':=.map (l.modify j<|lV vk vv) aM) hb;refine⟨by rw[i2,bq],_,?_,?_,g3.below<|hB rfl⟩
     ·have hl:l[j]? =some e0:=by simpa using q2
      simp only[Instr.mapUpdate,Sem.run_bind,aV e1,Result.andThen_ok,MapKept.run_getObj_map hb,oA,g1,hl,Option.map_some,Option.getD_some,Hu D8,MapKept.run_setObj_map _ hb];rfl
     ·rw[i1,hh];refine r.put ht hg rfl rfl hn rfl g3 g4 ⟨_,rfl,by rw[Gp];exact uZ,?_⟩;rw[Array.toList_modify];exact he.put kB iG
    |none=>
     have E2:r'=none:=g2;subst E2;obtain⟨_,_,_,i1,i2⟩:=hY (show ba n (some<|.map (es++[(key,val)])<|aM+1) s2= .ok u s1 from h6);obtain⟨g3,g4⟩:=rG (o':=.map (l.push {key:=vk,val:=vv,born:=aM})<|aM+1) hb;refine⟨by rw[i2,bq],_,?_,?_,g3.below<|hB rfl⟩
     ·simp only[Instr.mapUpdate,Sem.run_bind,aV e1,Result.andThen_ok,MapKept.run_getObj_map hb,oA,g1,MapKept.run_setObj_map _ hb]
     ·rw[i1,hh];refine r.put ht hg rfl rfl hn rfl g3 g4 ⟨_,rfl,by simp[uZ],?_⟩;rw[Array.toList_push];exact he.push kB iG (by simp[uZ])
   |cW es=>
    obtain⟨h3,h4⟩:=bP h2;obtain⟨f,h5,h6⟩:=bd h4;obtain⟨hp,Lb⟩:=and_true.1 h3;obtain⟨l,aM,rfl,ka,oB,l',hl,he⟩:=hO;obtain⟨kd,mG⟩:=Cq Lb;have oA:∀em,(Instr.checkKey em 10000 k vk).run P w= .ok () w:=fun em=>zS Lb kB;unfold findKey at h5;have hz:jY _=true:=Jq h5;simp only[hz] at h5;simp only[hp] at h5;obtain⟨f1,f2⟩:=GH mG hp kB ka he hl h5;cases f with
    |some p=>
     obtain⟨j,y⟩:=p;obtain⟨j',e0,a1,a2,a3,a4,q,a5,a6⟩:=f2 j y rfl;obtain⟨_,_,_,i1,i2⟩:=hY (show ba n (some<|.cW<|putAt es j key val) s2= .ok u s1 from h6);obtain⟨g3,g4⟩:=rG (o':=.map (l.modify j'<|lV vk vv) aM) hb;have hq:VR ρ q.1 e0.key:=by obtain⟨q',b1,b2,_⟩:=he.get a3;rw[a5] at b1;cases b1;exact b2
     have D8:Instr.sameBits 10000 e0.key vk=true:=Cp (by rw[zB];exact a6) hq kB 10000;refine⟨by rw[i2,bq],_,?_,?_,g3.below<|hB rfl⟩
     ·have gV:l[j']? =some e0:=by simpa using a2
      simp only[Instr.mapUpdate,Sem.run_bind,aV e1,Result.andThen_ok,MapKept.run_getObj_map hb,oA,MapKept.run_findKey mG a1,gV,Option.map_some,Option.getD_some,Hu D8,MapKept.run_setObj_map _ hb];rfl
     ·rw[i1,hh];refine r.put ht hg rfl rfl hn rfl g3 g4 ⟨_,_,rfl,ka.put a5 a6,?_,l'.modify j<|lV vk vv,?_,he.put kB iG⟩
      ·rw[Array.toList_modify];exact oB.modify _ _ _
      ·rw[Array.toList_modify];exact NS _ hl a2 a3
    |none=>
     obtain⟨_,_,_,i1,i2⟩:=hY (show ba n (some<|.cW<|es++[(key,val)]) s2= .ok u s1 from h6);obtain⟨g3,g4⟩:=rG (o':=.map (l.push {key:=vk,val:=vv,born:=aM})<|aM+1) hb;refine⟨by rw[i2,bq],_,?_,?_,g3.below<|hB rfl⟩
     ·simp only[Instr.mapUpdate,Sem.run_bind,aV e1,Result.andThen_ok,MapKept.run_getObj_map hb,oA,MapKept.run_findKey mG<|f1 rfl,MapKept.run_setObj_map _ hb]
     ·rw[i1,hh];refine r.put ht hg rfl rfl hn rfl g3 g4 ⟨_,_,rfl,ka.push<|BZ h5,?_,l'++[{key:=vk,val:=vv,born:=aM}],?_,cH.push (e:={key:=vk,val:=vv,born:=aM}) kB iG he⟩
      ·rw[Array.toList_push];exact oB.push rfl
      ·rw[Array.toList_push];exact hl.append_right _
   |_=>cases h2
theorem GI{ty:TypeId}{a b c:Operand}(he:∀x v,ar t x=some v->VR ρ v (ev x))(fi:aS s)(r:Rel B ρ s.h w)(h:iR P ty a b c U7 t s= .ok x s1)(ho:o.op= .mapUpdate ty a b c\/o.op= .insert ty a b c):dh P B ρ s s1 w x<|execOp ev o:=by unfold iR at h;obtain⟨m,h1,h2⟩:=bd h;obtain⟨k,h3,h4⟩:=bd h2;obtain⟨v,h5,h6⟩:=bd h4;obtain⟨u,s2,h7,h8⟩:=M.aL h6;obtain⟨rfl,rfl⟩:=aQ h8;obtain⟨a1,w',a2,a3,a4⟩:=Np (P:=P) (he a m h1) (he b k h3) (he c v h5) fi r h7;refine⟨ρ,w',.skip,by rw[a1];exact Ext.refl _ _ _,?_,rfl,a3,a4⟩;rcases ho with ho|ho<;>simp[execOp,ho,a2]
end
end Go.Rn
namespace Go.Rn
open Go.RowKit
section
variable {P:Program} {B:aH} {ρ:aj} {w:World} {s s1:AS} {x:AV} {U7:aJ} {t:Tr AV} {ev:Operand->Value} {o:Oper}
theorem fq.born:∀{es:List<|AV×AV} {l:List MapEntry} {n:Nat},fq ρ es l n->l.map (·.born)=List.range' n es.length
 |[],l,n,h=>by have h':l=[]:=h;subst h';rfl
 |p::es,l,n,h=>by obtain⟨e,l',rfl,a,b,c,d⟩:=h;rw[List.map_cons,c,d.born,List.length_cons,List.range'_succ]
theorem fq.Jr{es:List<|AV×AV}{l:List MapEntry}(h:fq ρ es l 0):l4 l es.length:=by have hb:=h.born;refine⟨by rw[hb];exact List.nodup_range',fun e he=>?_⟩;have:e.born∈l.map (·.born):=List.mem_map_of_mem he;rw[hb,List.mem_range'_1] at this;omega
theorem Rel.Sl{h:Tr U}(r:Rel B ρ h w){n m:Nat}{p:U}{b N:Nat}{es:List<|AV×AV}{ex:Bool}{l:Array MapEntry}{aM:Nat}(Lc:n<top)(BE:ρ n=none)(kQ:m<top)(hg:h.get m=some p)(hp:p.plain=true)(cn:p.bQ=false)(hm:ρ m=some (b,N))(hb:w.heap[b]? =some (.map l aM))(oB:l4 l.toList aM)(h1:ex=true->aM=es.length/\fq ρ es l.toList 0)(h2:ex=false->gz es/\my ρ es l.toList)(h3:my ρ es l.toList):
 Rel B (eg ρ n (w.heap.size,1)) ((h.put m<|some .fp).put n<|some<|.iter m es ex es none) {w with heap:=w.heap.push<|.mapIter (some b) aM #[] aM}:=by
 have hl:ρ.le<|eg ρ n (w.heap.size,1):=lZ BE;have mC:m≠n:=by intro e;subst e;rw[hm] at BE;cases BE
 have fN:h.get n=none:=by
  cases e:h.get n with
  |none=>rfl
  |some p=>obtain⟨_,_,_,h1,_⟩:=r.is n p Lc e;rw[BE] at h1;cases h1
 have g:∀k,k<top->((h.put m<|some .fp).put n<|some<|.iter m es ex es none).get k=if k=n then some (.iter m es ex es none) else if k=m then some .fp else h.get k:=by intro k hk;rw[Tr.cV _ _ _ _ Lc hk,Tr.cV _ _ _ _ kQ hk]
 have hw:∀k,k<w.heap.size->(w.heap.push<|.mapIter (some b) aM #[] aM)[k]? =w.heap[k]? :=(dA.alloc w _).block;obtain⟨_,_,_,hB⟩:=r.block kQ hg hm;have size:∀k q,k<top->h.get k=some q->∀b1 N1,ρ k=some (b1,N1)->b1<w.heap.size:=by intro k q hk hq b1 N1 e;obtain⟨b2,N2,o2,e1,e2,_⟩:=r.is k q hk hq;rw[e] at e1;cases e1;exact fU e2
 have bJ:∀k q,k<top->(if k=m then some U.fp else h.get k)=some q->∃q',h.get k=some q'/\(q.bQ=false->q'.bQ=false):=by
  intro k q hk hq;by_cases e:k=m
  ·subst e;exact⟨p,hg,fun _=>cn⟩
  ·rw[if_neg e] at hq;exact⟨q,hq,id⟩
 refine⟨?_,?_,?_,fun k hk=>r.size k<|Nat.le_trans (by simp) hk,?_,r.fz.of hl (fun b1 nC _=>hw b1 nC) (fun b1 nC hn j q M hj hq dm e=>by
  rw[g j hj] at hq;by_cases a:j=n
  ·subst a;rw[fH] at e;cases e;exact absurd nC (Nat.lt_irrefl _)
  ·rw[if_neg a] at hq;rw[gN ρ _ a] at e;obtain⟨q',e1,e2⟩:=bJ j q hj hq;exact hn j q' M hj e1 (e2 dm) e),r.tk.of hl (fun j q hj hq mj=>by
  rw[g j hj] at hq;by_cases a:j=n
  ·rw[if_pos a] at hq;cases hq;cases mj
  ·rw[if_neg a] at hq;by_cases a2:j=m
   ·rw[if_pos a2] at hq;cases hq;cases mj
   ·rw[if_neg a2] at hq;exact hq) (by simp) (fun b1 nC _=>hw b1 nC) (fun b1 nC hn j q M hj hq dm e=>by
  rw[g j hj] at hq;by_cases a:j=n
  ·subst a;rw[fH] at e;cases e;exact absurd nC (Nat.lt_irrefl _)
  ·rw[if_neg a] at hq;rw[gN ρ _ a] at e;obtain⟨q',e1,e2⟩:=bJ j q hj hq;exact hn j q' M hj e1 (e2 dm) e) (fun j x sh _ _ e=>by rw[gN ρ _ (by have:=fI j x sh;omega)];exact e)⟩
 ·intro k q hk hq;rw[g k hk] at hq;by_cases e:k=n
  ·subst e;rw[if_pos rfl] at hq;cases hq;refine⟨w.heap.size,1,.mapIter (some b) aM #[] aM,fH _ _ _,by simp,?_,fun _=>r.size _<|Nat.le_refl _⟩;exact⟨b,N,aM, #[],hl _ _ hm,rfl⟩
  ·rw[if_neg e] at hq;by_cases e2:k=m
   ·subst e2;rw[if_pos rfl] at hq;cases hq;exact⟨b,N,_,hl _ _ hm,(hw b<|fU hb).trans hb,⟨l,aM,rfl⟩,fun _=>hB cn⟩
   ·rw[if_neg e2] at hq;obtain⟨b1,N1,o1,c1,c2,c3,c4⟩:=r.is k q hk hq;exact⟨b1,N1,o1,hl _ _ c1,(hw b1<|fU c2).trans c2,c3.mono hl,c4⟩
 ·intro k j q q' b1 N1 M1 hk hj hq dk ct e1 e2;rw[g k hk] at hq;rw[g j hj] at dk;by_cases a1:k=n
  ·by_cases a2:j=n
   ·omega
   ·rw[if_neg a2] at dk;subst a1;rw[fH] at e1;cases e1;rw[gN ρ _ a2] at e2;obtain⟨q2,yO,yP⟩:=bJ j q' hj dk;exact absurd (size j q2 hj yO _ _ e2)<|Nat.lt_irrefl _
  ·rw[if_neg a1] at hq;rw[gN ρ _ a1] at e1;obtain⟨q1,BF,j8⟩:=bJ k q hk hq;by_cases a2:j=n
   ·subst a2;rw[fH] at e2;cases e2;exact absurd (size k q1 hk BF _ _ e1)<|Nat.lt_irrefl _
   ·rw[if_neg a2] at dk;rw[gN ρ _ a2] at e2;obtain⟨q2,yO,yP⟩:=bJ j q' hj dk;exact r.one k j q1 q2 b1 N1 M1 hk hj BF yO (ct.imp j8 yP) e1 e2
 ·intro i m' dT fM left cur hi hq;rw[g i hi] at hq;by_cases e:i=n
  ·subst e;rw[if_pos rfl] at hq;cases hq;refine⟨kQ,by rw[g m kQ,if_neg mC,if_pos rfl],?_⟩;refine⟨w.heap.size,1,b,N,l,aM, #[],fH _ _ _,hl _ _ hm,by simp,(hw b<|fU hb).trans hb,oB,fun e=>⟨(h1 e).1,(h1 e).2.mono hl⟩,fun e=>⟨(h2 e).1,(h2 e).2.mono hl⟩,?_,rfl⟩;have:(l.toList.filter fun e=> !(#[]:Array Nat).contains e.born)=l.toList:=List.filter_eq_self.2 (by simp);rw[this];exact h3.mono hl
  ·rw[if_neg e] at hq;by_cases e2:i=m
   ·subst e2;rw[if_pos rfl] at hq;cases hq
   ·rw[if_neg e2] at hq;obtain⟨da,dO,b1,N1,bm,M,l1,Qm,seen,c1,c2,c3,c4,c5⟩:=r.iter i m' dT fM left cur hi hq;have d1:m'≠n:=by intro e3;subst e3;rw[fN] at dO;cases dO
    refine⟨da,?_,jr.mono hl ⟨b1,N1,bm,M,l1,Qm,seen,c1,c2,(hw b1<|fU c3).trans c3,(hw bm<|fU c4).trans c4,c5⟩⟩;rw[g m' da,if_neg d1];by_cases d2:m'=m
    ·rw[if_pos d2]
    ·rw[if_neg d2];exact dO
 ·have new:∀i,i<top->∀qY qZ qF qM,(if i=m then some U.fp else h.get i)≠some (.iter m qY qZ qF qM):=by
   intro i hi qY qZ qF qM hq;by_cases e:i=m
   ·rw[if_pos e] at hq;cases hq
   ·rw[if_neg e] at hq;obtain⟨_,dO,_⟩:=r.iter i m _ _ _ _ hi hq;rw[hg] at dO;cases dO;simp[U.plain] at hp
  intro i j m' qY qZ qF qM rb BG AR A8 hi hj q1 q2;rw[g i hi] at q1;rw[g j hj] at q2;by_cases e:i=n
  ·by_cases e2:j=n
   ·omega
   ·rw[if_pos e] at q1;rw[if_neg e2] at q2;cases q1;exact absurd q2<|new j hj _ _ _ _
  ·rw[if_neg e] at q1;by_cases e2:j=n
   ·rw[if_pos e2] at q2;cases q2;exact absurd q1<|new i hi _ _ _ _
   ·rw[if_neg e2] at q2;by_cases e3:i=m
    ·rw[if_pos e3] at q1;cases q1
    ·rw[if_neg e3] at q1;by_cases e4:j=m
     ·rw[if_pos e4] at q2;cases q2
     ·rw[if_neg e4] at q2;exact r.lone i j m' _ _ _ _ _ _ _ _ hi hj q1 q2
theorem MO{b:Nat}{m:Option Nat}{c c':Nat}{seen:Array Nat}(hb:w.heap[b]? =some (.mapIter m c seen c')):(getObj b).run P w= .ok (.mapIter m c seen c') w:=by simp[getObj,Sem.run,hb]
theorem MP{ty:TypeId}{a:AV}{va:Value}(ha:VR ρ a va)(fi:aS s)(r:Rel B ρ s.h w)(hf:bL s.nx s1.nx ρ)(h:sk P ty a s= .ok x s1):eK P B ρ s s1 w x<|Instr.range ty va:=by
 unfold sk at h;cases e1:P.underlying ty with
 |none=>simp only[e1] at h;cases h
 |some d=>
  cases d<;>simp only[e1] at h<;>first|(cases h;done)|skip
  case string=>
   cases a<;>first|(cases h;done)|skip
   rename_i bs;simp only[VR] at ha;subst ha;obtain⟨n,s2,h1,h2⟩:=M.aL h;obtain⟨rfl,rfl⟩:=aQ h2;obtain⟨ht,rfl,rfl⟩:=kX h1;have eG:ρ s.nx=none:=hf s.nx (Nat.le_refl _) (Nat.lt_succ_self _) (by omega);refine⟨eg ρ s.nx (w.heap.size,0),_,.pointer<|some ⟨w.heap.size,0,none⟩,Ext.bB eG,?_,?_,r.new ht eG rfl (o':=.stringIter bs 0) rfl,(dA.alloc w<|.stringIter bs 0).below r.size⟩
   ·simp only[Instr.range,Sem.run_bind,aV e1,Result.andThen_ok,Sem.run_pure,newObj,Sem.run]
   ·simp only[VR];exact⟨_,_,fH _ _ _,rfl⟩
  cases a<;>first|(cases h;done)|skip
  rename_i q;cases q with
  |none=>cases h
  |some m=>
   simp only[VR] at ha;obtain⟨b,N,hm,rfl⟩:=ha;obtain⟨ob,s2,h1,h2⟩:=M.aL h;obtain⟨hx,hg,hh,bq⟩:=eS h1;have kQ:m<top:=Nat.lt_of_lt_of_le hx fi.nx;obtain⟨o',hb,hO,hB⟩:=r.block kQ hg hm;have fin:∀(es:List<|AV×AV) (ex:Bool) (l:Array MapEntry) (aM:Nat),ob.plain=true->ob.bQ=false->w.heap[b]? =some (.map l aM)->l4 l.toList aM->(ex=true->aM=es.length/\fq ρ es l.toList 0)->(ex=false->gz es/\my ρ es l.toList)->my ρ es l.toList->
    ((ba m<|some .fp).bind fun _=>(cZ<|.iter m es ex es none).bind fun n=>M.pure<|.ptr<|some (n,0)) s2= .ok x s1->eK P B ρ s s1 w x (Instr.range ty<|.map<|some b):=by
    intro es ex l aM hp cn ft oB p1 p2 p3 h3;obtain⟨u,s3,h4,h5⟩:=M.aL h3;obtain⟨n,s4,h6,h7⟩:=M.aL h5;obtain⟨rfl,rfl⟩:=aQ h7;obtain⟨_,_,_,i1,i2⟩:=hY h4;obtain⟨ht,rfl,rfl⟩:=kX h6;have e:s3.nx=s.nx:=i2.trans bq;have eG:ρ s3.nx=none:=hf s3.nx (by omega) (Nat.lt_succ_self _) (by omega);refine⟨eg ρ s3.nx (w.heap.size,1),_,.pointer<|some ⟨w.heap.size,0,none⟩,?_,?_,?_,?_,(dA.alloc w<|.mapIter (some b) aM #[] aM).below r.size⟩
    ·rw[←e];exact Ext.bB eG
    ·simp only[Instr.range,Sem.run_bind,aV e1,Result.andThen_ok,MapKept.run_getObj_map ft,Sem.run_pure,newObj,Sem.run]
    ·simp only[VR];exact⟨_,_,fH _ _ _,rfl⟩
    ·show Rel B _ (s3.h.put s3.nx<|some<|.iter m es ex es none) _;rw[i1,hh];exact r.Sl ht eG kQ hg hp cn hm ft oB p1 p2 p3
   cases ob with
   |map es aM=>obtain⟨l,rfl,uZ,he⟩:=hO;exact fin es true l aM rfl rfl hb (by rw[uZ];exact he.Jr) (fun _=>⟨uZ,he⟩) (fun e=>by cases e) ⟨_,List.Perm.refl _,he.eqs⟩ h2
   |cW es=>obtain⟨l,aM,rfl,ka,oB,he⟩:=hO;exact fin es false l aM rfl rfl hb oB (fun e=>by cases e) (fun _=>⟨ka,he⟩) he h2
   |_=>cases h2
theorem Nq{ty:TypeId}{y:Operand}(he:∀x v,ar t x=some v->VR ρ v (ev x))(fi:aS s)(r:Rel B ρ s.h w)(hf:bL s.nx s1.nx ρ)(h:sJ P ty y U7 t s= .ok x s1)(ho:o.op= .range ty y):dh P B ρ s s1 w x<|execOp ev o:=by unfold sJ at h;obtain⟨a,h1,h2⟩:=bd h;have:=(MP (P:=P) (he y a h1) fi r hf h2).op;simpa only[execOp,ho] using this
theorem find_born{e:MapEntry}:∀{l:List MapEntry},(l.map (·.born)).Nodup->e∈l->l.find? (·.born == e.born)=some e
 |[],_,h=>by cases h
 |a::l,hn,h=>by
  rw[List.map_cons,List.nodup_cons] at hn;rcases List.mem_cons.1 h with rfl|h
  ·simp
  ·have:(a.born == e.born)=false:=by rw[beq_eq_false_iff_ne];intro q;exact hn.1 (by rw[q];exact List.mem_map_of_mem h)
   rw[List.find?_cons,this];exact find_born hn.2 h
theorem Nr{y:Operand}(he:∀x v,ar t x=some v->VR ρ v (ev x))(fi:aS s)(r:Rel B ρ s.h w)(h:sK y U7 t s= .ok x s1)(ho:o.op= .entry y):dh P B ρ s s1 w x<|execOp ev o:=by
 unfold sK at h;obtain⟨a,h1,h2⟩:=bd h;have ha:=he y a h1;unfold uM at h2;split at h2
 ·rename_i n;obtain⟨ob,s2,h3,h4⟩:=M.aL h2;obtain⟨hx,hg,hh,bq⟩:=eS h3;have ht:n<top:=Nat.lt_of_lt_of_le hx fi.nx;split at h4
  ·rename_i m es ex left k v;obtain⟨rfl,rfl⟩:=aQ h4;obtain⟨_,_,b,N,bm,M,l,aM,seen,c1,c2,c3,c4,c5,_,_,_,c9⟩:=r.iter n m es ex left _ ht hg;obtain⟨e,d1,d2,d3,d4⟩:=c9;simp only[VR] at ha;obtain⟨b',N',q1,q2⟩:=ha;rw[c1] at q1;cases q1;refine⟨ρ,w,.value<|.tuple #[e.key,e.val],by rw[bq];exact Ext.refl _ _ _,?_,?_,by rw[hh];exact r,bp.refl _ _⟩
   ·have hf:l.find? (·.born == e.born)=some e:=by rw[←Array.find?_toList];exact find_born c5.1 d1
    simp only[execOp,ho,q2,Instr.entry,Sem.run_bind,MO c3,Result.andThen_ok,d2,MapKept.run_getObj_map c4,bne_self_eq_false,Bool.false_eq_true,if_false,hf,Sem.run_pure]
   ·simp only[VR,av];exact⟨_,rfl,_,_,rfl,d3,_,_,rfl,d4,rfl⟩
  ·cases h4
 ·cases h2
theorem MA{y:Operand}(he:∀x v,ar t x=some v->VR ρ v (ev x))(fi:aS s)(r:Rel B ρ s.h w)(h:rQ y U7 t s= .ok x s1)(ho:o.op= .next y true):dh P B ρ s s1 w x<|execOp ev o:=by
 unfold rQ at h;obtain⟨a,h1,h2⟩:=bd h;have ha:=he y a h1;unfold uL at h2;split at h2
 ·rename_i n;obtain⟨ob,s2,h3,h4⟩:=M.aL h2;obtain⟨hx,hg,hh,bq⟩:=eS h3;have ht:n<top:=Nat.lt_of_lt_of_le hx fi.nx;split at h4
  ·rename_i bs pos;simp only[VR] at ha;obtain⟨b,N,fO,hv⟩:=ha;obtain⟨o',hb,hO,hB⟩:=r.block ht hg fO;have yQ:o'= .stringIter bs pos:=hO;subst yQ;have nH:(match Nat.blt pos bs.size with|true=>(ba n<|some<|.se bs<|pos+(Utf8.decode bs pos).2).bind fun _=>M.pure (.tuple [.bool true,.int .i64 pos,.int .i32 (Utf8.decode bs pos).1])|false=>M.pure (.tuple [.bool false]):M AV) s2= .ok x s1:=h4;cases aW:Nat.blt pos bs.size with
   |true=>
    rw[aW] at nH;have h4:=nH;have ya:pos<bs.size:=(blt_eq _ _).mp aW;obtain⟨u,s3,h5,h6⟩:=M.aL h4;obtain⟨rfl,rfl⟩:=aQ h6;obtain⟨_,_,_,i1,i2⟩:=hY h5;obtain⟨g3,g4⟩:=rG (o':=.stringIter bs<|pos+(Utf8.decode bs pos).2) hb;refine⟨ρ,{w with heap:=w.heap.setIfInBounds b<|.stringIter bs<|pos+(Utf8.decode bs pos).2},.value<|.tuple #[.bool true,goInt pos,.int .i32 (Utf8.decode bs pos).1],by rw[i2,bq];exact Ext.refl _ _ _,?_,?_,?_,g3.below<|hB rfl⟩
    ·have x9:(setObj b<|.stringIter bs<|pos+(Utf8.decode bs pos).2).run P w= .ok () {w with heap:=w.heap.setIfInBounds b<|.stringIter bs<|pos+(Utf8.decode bs pos).2}:=by simp[setObj,Sem.run,hb]
     have gl:(getObj b).run P w= .ok (.stringIter bs pos) w:=by simp[getObj,Sem.run,hb]
     simp only[execOp,ho,hv,Instr.next,Sem.run_bind,gl,Result.andThen_ok,ya,if_true,x9,Sem.run_pure]
    ·simp only[VR,av,goInt];exact⟨_,rfl,_,_,rfl,rfl,_,_,rfl,rfl,_,_,rfl,rfl,rfl⟩
    ·rw[i1,hh];exact r.put ht hg rfl rfl fO rfl g3 g4 rfl
   |false=>
    rw[aW] at nH;have h4:=nH;have ya:¬pos<bs.size:=by intro q;rw[(blt_eq _ _).mpr q] at aW;cases aW
    obtain⟨rfl,rfl⟩:=aQ h4;have gl:(getObj b).run P w= .ok (.stringIter bs pos) w:=by simp[getObj,Sem.run,hb]
    refine⟨ρ,w,.value<|.tuple #[.bool false],by rw[bq];exact Ext.refl _ _ _,?_,?_,by rw[hh];exact r,bp.refl _ _⟩
    ·simp only[execOp,ho,hv,Instr.next,Sem.run_bind,gl,Result.andThen_ok,ya,if_false,Sem.run_pure]
    ·simp only[VR,av];exact⟨_,rfl,_,_,rfl,rfl,rfl⟩
  ·cases h4
 ·cases h2
end
end Go.Rn
namespace Go.Rn
open Go.RowKit
def Qn(P:Program)(l:Nat)(f:FuncId)(tmps:Array Value)(assign body:Code)(w:World)(R:Value->World->Prop):Prop:=∀(c:Frame) (cs:List Frame),∃v w',R v w'/\Steps P (lone (Frame.round l f tmps assign body .normal) (c::cs) w) (lone (c.finish v) cs w')
def fZ(P:Program)(r:Result Next)(R:Value->World->Prop):Prop:=
 match r with
 | .ok (.value v) w=>R v w
 | .ok .skip w=>R undef w
 | .ok (.enter f args) w=>Calls P f args w fun e w'=>∃v,e= .returned v/\R v w'
 | .ok (.round l f tmps assign body) w=>Qn P l f tmps assign body w R
 |_=>False
def gC(B:aH)(ρ:aj)(s s1:AS)(w:World)(x:AV):Value->World->Prop:=fun v w'=>∃σ,Ext s.nx s1.nx ρ σ/\VR σ x v/\Rel B σ s1.h w'/\bp B w w'
structure dD (P:Program) (B:aH) (U7:aJ):Prop where
 fn:∀(f:FuncId) (args:List AV) (x:AV) (s s1:AS) (ρ:aj) (w:World) (vs:Array Value),aS s->Rel B ρ s.h w->eh ρ->bL s.nx s1.nx ρ->U7 (.fn f) args s= .ok x s1->av ρ args vs.toList->
  fZ P ((callFunc f vs).run P w) (gC B ρ s s1 w x)
 round:∀(l b N:Nat) (args:List AV) (x:AV) (s s1:AS) (ρ:aj) (w:World) (vs:Array Value),aS s->Rel B ρ s.h w->eh ρ->bL s.nx s1.nx ρ->U7 (.round l) args s= .ok x s1->av ρ args vs.toList->
  ρ l=some (b,N)->fZ P ((Instr.yield b vs).run P w) (gC B ρ s s1 w x)
 row:sM B U7
section
variable {P:Program} {B:aH} {ρ:aj} {w:World} {s s1:AS} {x:AV} {U7:aJ} {t:Tr AV} {ev:Operand->Value} {o:Oper}
theorem dh.back{c:Sem Next}(h:dh P B ρ s s1 w x c):fZ P (c.run P w)<|gC B ρ s s1 w x:=by
 obtain⟨σ,w',nv,a,b,d,e,f⟩:=h;rw[b];cases nv<;>first|(cases d;done)|skip
 ·exact⟨σ,a,d,e,f⟩
 ·exact⟨σ,a,by rw[d];exact VR.undef σ,e,f⟩
theorem VR.H6{f:Fn}{a c:List AV}{v:Value}(h:VR ρ (.func f a c) v):IE f=true/\∃p q,v= .func f p q/\av ρ a p.toList/\av ρ c q.toList:=by simpa only[VR] using h
theorem NT{y:Operand}{args:Array Operand}{ts:Array TypeId}(hc:dD P B U7)(he:∀x v,ar t x=some v->VR ρ v (ev x))(hg:eh ρ)(fi:aS s)(r:Rel B ρ s.h w)(hf:bL s.nx s1.nx ρ)(h:nh y args.toList U7 t s= .ok x s1)(ho:o.op= .call ⟨.value y,args,ts⟩):fZ P ((execOp ev o).run P w)<|gC B ρ s s1 w x:=by
 unfold nh at h;obtain⟨l,h1,h2⟩:=bd h;obtain⟨f,h3,h4⟩:=bd h2;have hl:=uF he h1;have mH:=he y f h3;unfold jt at h4;split at h4
 ·rename_i g first captured
  obtain⟨_,p,q,e,hp,hq⟩:=mH.H6;have xH:av ρ (first++l++captured) (p++args.map ev++q).toList:=by rw[Array.toList_append,Array.toList_append];exact(hp.append<|by simpa using hl).append hq
  have:=hc.fn g _ x s s1 ρ w _ fi r hg hf h4 xH;simp only[execOp,ho,resolve,Deferred.ofValue,e,Sem.run_bind,Sem.run_pure,Result.andThen_ok,invoke];exact this
 ·rename_i n;have kN:=mH;simp only[VR] at kN;obtain⟨b,N,hn,e⟩:=kN;have:=hc.round n b N _ x s s1 ρ w (args.map ev) fi r hg hf h4 (by simpa using hl) hn;simp only[execOp,ho,resolve,Deferred.ofValue,e,Sem.run_bind,Sem.run_pure,Result.andThen_ok,invoke];simpa using this
 ·cases h4
theorem Ns{ty:TypeId}{name:String}{f:FuncId}{v:Value}{k:Nat}(h:Df P ty name=some f):(Go.method (k+1) ty v name).run P w= .ok (f,v) w:=by
 unfold Df at h;cases e1:P.info? ty with
 |none=>rw[e1] at h;cases h
 |some i=>
  simp only[e1] at h;cases e2:i.methods.toList.find? (·.name == name) with
  |none=>simp only[e2] at h;cases h
  |some m=>
   simp only[e2] at h;have e3:i.methods.find? (·.name == name)=some m:=by rw[←Array.find?_toList];exact e2
   split at h
   ·rename_i g ptr hp hm;have Rk:m.path.toList=[]:=by
     have:m.path= #[]:=by simpa using hp
     rw[this]
    have hrecv:(receiverAt ty (.val v) ptr (if m.path.isEmpty=true then some ((name.splitOn ".").getLastD name) else none)).run P w= .ok v w/\g=f:=by
     split at h
     ·rename_i pt eu;injection h with h
      exact⟨by simp[receiverAt,aV eu,Place.get],h⟩
     ·cases h
     ·rename_i d hd eu;injection h with h
      refine⟨?_,h⟩;simp only[receiverAt,Sem.run_bind,aV eu,Result.andThen_ok];cases d<;>first|rfl|(exact absurd eu<|hd _)
     ·cases h
    rw[Go.method];simp only[Sem.run_bind,mK e1,Result.andThen_ok,e3,Rk,follow,Sem.run_pure,hm,hrecv.1,hrecv.2]
   ·cases h
theorem MQ{ty:TypeId}{u:Value}{name:String}{va:Array Value}{g:FuncId}(hm:∀k,(Go.method (k+1) ty u name).run P w= .ok (g,u) w):
 (invoke (.fn (.method name) #[])<|#[.iface ty u]++va).run P w=(callFunc g<|#[u]++va).run P w:=by
 have e2:(#[Value.iface ty u]++va).extract 1 (#[Value.iface ty u]++va).size=va:=by apply Array.toList_inj.1;simp
 have e3:(#[Value.iface ty u]++va)[0]? =some (.iface ty u):=by rw[Array.getElem?_append_left<|by simp];rfl
 have Rl:P.types.size+Made.depth=(P.types.size+Made.depth - 1)+1:=by
  have:0<Made.depth:=by decide
  omega
 have nk:(program).run P w= .ok P w:=rfl;simp only[invoke,e2,e3,callMethod,Sem.run_bind,nk,Result.andThen_ok];rw[Rl,hm];rfl
theorem MR{y:Operand}{name:String}{args:Array Operand}{ts:Array TypeId}(hc:dD P B U7)(he:∀x v,ar t x=some v->VR ρ v (ev x))(hg:eh ρ)(fi:aS s)(r:Rel B ρ s.h w)(hf:bL s.nx s1.nx ρ)(h:sr P y name args.toList U7 t s= .ok x s1)(ho:o.op= .call ⟨.invoke y name,args,ts⟩):fZ P ((execOp ev o).run P w)<|gC B ρ s s1 w x:=by
 unfold sr at h;obtain⟨l,h1,h2⟩:=bd h;obtain⟨f,h3,h4⟩:=bd h2;have hl:=uF he h1;have mH:=he y f h3;split at h4
 ·rename_i ty v;obtain⟨g,h5,h6⟩:=bd h4;simp only[VR] at mH;obtain⟨u,e,hu⟩:=mH;have xH:av ρ (v::l) (#[u]++args.map ev).toList:=by simp only[Array.toList_append,av];exact⟨u,(args.map ev).toList,by simp,hu,by simpa using hl⟩
  have:=hc.fn g _ x s s1 ρ w _ fi r hg hf h6 xH;have hm:∀k,(Go.method (k+1) ty u name).run P w= .ok (g,u) w:=fun k=>Ns h5;simp only[execOp,ho,resolve,Sem.run_bind,Sem.run_pure,Result.andThen_ok,e];rw[MQ (P:=P) (w:=w) hm];exact this
 ·cases h4
end
end Go.Rn
namespace Go.Rn
open Go.RowKit
section
variable {P:Program} {B:aH} {ρ:aj} {w:World} {s s1:AS} {x:AV} {U7:aJ} {t:Tr AV} {o:Oper}
theorem Qo{a:Act}{nt:Nat}(hc:dD P B U7)(hl:∀t a,U5<|U7 t a)(ht:TR ρ nt t a.tmps)(hg:eh ρ)(fi:aS s)(r:Rel B ρ s.h w)(hf:bL s.nx s1.nx ρ)(h:(bC P o.op).val U7 t s= .ok x s1):
 (∀c,o.op≠ .defer c)/\fZ P ((execOp a.eval o).run P w) (gC B ρ s s1 w x):=by
 have he:∀x v,ar t x=some v->VR ρ v (a.eval x):=fun x v=>xh ht hg;cases cM:o.op
 all_goals rw[cM] at h
 case move y=>exact⟨by simp,(Hp (U7:=U7) he r h<|.inl cM).back⟩
 case assign y=>exact⟨by simp,(Hp (U7:=U7) he r h<|.inr cM).back⟩
 case pick c p q=>exact⟨by simp,(NK (U7:=U7) he r h cM).back⟩
 case alloc e=>exact⟨by simp,(M8 (U7:=U7) (t:=t) r hf h cM).back⟩
 case box e y=>exact⟨by simp,(OJ (U7:=U7) he r hf h cM).back⟩
 case build ty parts=>exact⟨by simp,(Nb (U7:=U7) he r h cM).back⟩
 case buildSlice ty len parts=>exact⟨by simp,(L5 (U7:=U7) he r hf h cM).back⟩
 case load ty y=>exact⟨by simp,(NL (U7:=U7) hc.row he fi r h cM).back⟩
 case store ty y z=>exact⟨by simp,(M9 (U7:=U7) he fi r h cM).back⟩
 case nilCheck y=>exact⟨by simp,(Me (U7:=U7) he r h cM).back⟩
 case binOp op ty y z u=>exact⟨by simp,(OK (U7:=U7) he r h cM).back⟩
 case unOp op ty y=>exact⟨by simp,(PB (U7:=U7) he r h cM).back⟩
 case convert src dst y=>exact⟨by simp,(Ms (U7:=U7) he fi r h cM).back⟩
 case makeInterface ty y=>exact⟨by simp,(L3 (U7:=U7) he r h cM).back⟩
 case makeFunc fn first captured=>exact⟨by simp,(Mf (U7:=U7) he r h cM).back⟩
 case makeMap ty y=>exact⟨by simp,(Mu (U7:=U7) he r hf h cM).back⟩
 case makeSlice ty l c=>exact⟨by simp,(Mb (U7:=U7) he r hf h cM).back⟩
 case slice ty y lo hi mx=>exact⟨by simp,(Ni (U7:=U7) he r h cM).back⟩
 case fieldAddr ty y f=>exact⟨by simp,(L8 (U7:=U7) he r h cM).back⟩
 case field ty y f=>exact⟨by simp,(Ng (U7:=U7) he r h cM).back⟩
 case indexAddr ty y z=>exact⟨by simp,(L9 (U7:=U7) he r h cM).back⟩
 case index ty y z=>exact⟨by simp,(Nh (U7:=U7) he r h cM).back⟩
 case lookup ty y z ok=>exact⟨by simp,(MN (U7:=U7) he fi r h cM).back⟩
 case mapUpdate ty m k y=>exact⟨by simp,(GI (U7:=U7) he fi r h<|.inl cM).back⟩
 case insert ty m k y=>exact⟨by simp,(GI (U7:=U7) he fi r h<|.inr cM).back⟩
 case typeAssert y xt asserted ok=>exact⟨by simp,(MJ (U7:=U7) he r h cM).back⟩
 case range ty y=>exact⟨by simp,(Nq (U7:=U7) he fi r hf h cM).back⟩
 case entry y=>exact⟨by simp,(Nr (U7:=U7) he fi r h cM).back⟩
 case next y Fa=>
  cases Fa with
  |true=>exact⟨by simp,(MA (U7:=U7) he fi r h cM).back⟩
  |false=>exact absurd (show(fail:M AV) s= .ok x s1 from h) (by intro e;cases e)
 case extract y i=>exact⟨by simp,(Mv (U7:=U7) he r h cM).back⟩
 case call c=>
  obtain⟨callee,args,ts⟩:=c;cases callee with
  |builtin b=>exact⟨by simp,(My (U7:=U7) hc.row hl he fi r hf h cM).back⟩
  |value f=>exact⟨by simp,NT hc he hg fi r hf h cM⟩
  |invoke recv name=>exact⟨by simp,MR hc he hg fi r hf h cM⟩
 all_goals (exact absurd (show(fail:M AV) s= .ok x s1 from h) (by intro e;cases e))
end
end Go.Rn
namespace Go.Rn
open Go.RowKit
section
variable {P:Program} {B:aH} {ρ:aj} {w:World} {s s1:AS} {x:AV} {U7:aJ} {t:Tr AV} {o:Oper}
theorem Hw{f:AV}{args:List AV}{vf:Value}{vs:Array Value}(hc:dD P B U7)(hg:eh ρ)(fi:aS s)(r:Rel B ρ s.h w)(hf:bL s.nx s1.nx ρ)(mH:VR ρ f vf)(hl:av ρ args vs.toList)(h4:jt U7 f args s= .ok x s1):fZ P ((do let d ←Deferred.ofValue vf vs;invoke d.target d.args:Sem Next).run P w)<|gC B ρ s s1 w x:=by
 unfold jt at h4;split at h4
 ·rename_i g first captured
  obtain⟨_,p,q,e,hp,hq⟩:=mH.H6;have xH:av ρ (first++args++captured) (p++vs++q).toList:=by rw[Array.toList_append,Array.toList_append];exact(hp.append hl).append hq
  have:=hc.fn g _ x s s1 ρ w _ fi r hg hf h4 xH;simp only[Deferred.ofValue,e,Sem.run_bind,Sem.run_pure,Result.andThen_ok,invoke];exact this
 ·rename_i n;have kN:=mH;simp only[VR] at kN;obtain⟨b,N,hn,e⟩:=kN;have:=hc.round n b N _ x s s1 ρ w vs fi r hg hf h4 hl hn;simp only[Deferred.ofValue,e,Sem.run_bind,Sem.run_pure,Result.andThen_ok,invoke];simpa using this
 ·cases h4
theorem G4{ops:Array Oper}{i:Nat}{a:Act}{R:Value->World->Prop}(ho:ops[i]? =some o)(hw:Region.wanted o (yielded ops a.tmps)=true)(hd:∀c,o.op≠ .defer c)(h:fZ P ((execOp a.eval o).run P w) R)(b:Frame)(k:List Item)(cs:List Frame)(rest:List Nat):
 ∃v w',R v w'/\Steps P (lone (b.atR a<|.inRegion ops (i::rest)::k) cs w) (lone (b.atR (a.put o.dst v)<|.inRegion ops rest::k) cs w'):=by
 have hg:=stepGR_op (P:=P) (b:=b) (k:=k) (cs:=cs) (w:=w) (rest:=rest) ho hw;rw[Oper.semAt_eq _ _ _ hd] at hg;have jy:∀v,(b.atR a<|.inRegion ops (i::rest)::k).finish v=b.atR (a.put o.dst v) (.inRegion ops rest::k):=by intro v;rw[Frame.finish_atR,ho];rfl
 generalize hr:(execOp a.eval o).run P w=res at h;unfold fZ at h;split at h
 ·rename_i v w';refine⟨v,w',h,.one<|step_lone_go ?_⟩;rw[hg, ←jy];simp[stepG.apply,hr]
 ·rename_i w';refine⟨undef,w',h,.one<|step_lone_go ?_⟩;rw[hg, ←jy];simp[stepG.apply,hr]
 ·rename_i f args w';obtain⟨e,iB,fr,⟨v,rfl,hR⟩,sN,cI,DB⟩:=h<|b.atR a (.inRegion ops (i::rest)::k)::cs;have sO:step P (lone (b.atR a<|.inRegion ops (i::rest)::k) cs w)= .next (lone (Frame.enter P f args .normal) (b.atR a (.inRegion ops (i::rest)::k)::cs) w'):=step_lone_go (by rw[hg];simp[stepG.apply,hr,Frame.atR])
  refine⟨v,iB,hR,.head sO<|Steps.trans sN<|.one ?_⟩;rw[←jy];exact step_leave_returned DB
 ·rename_i l f tmps assign body w';obtain⟨v,iB,hR,sN⟩:=h (b.atR a<|.inRegion ops (i::rest)::k) cs;have sO:step P (lone (b.atR a<|.inRegion ops (i::rest)::k) cs w)= .next (lone (Frame.round l f tmps assign body .normal) (b.atR a (.inRegion ops (i::rest)::k)::cs) w'):=step_lone_go (by rw[hg];simp[stepG.apply,hr,Frame.atR])
  refine⟨v,iB,hR,.head sO ?_⟩;rw[←jy];exact sN
 ·cases h
theorem MS{ops:Array Oper}{nt:Nat}{a:Act}(ht:TR ρ nt t a.tmps)(j:Nat)(hk:mX ops t j=true):yielded ops a.tmps j=w6 ops t j:=by
 unfold mX at hk;unfold yielded w6;cases e1:ops[j]? with
 |none=>rfl
 |some q=>
  rw[e1] at hk;simp only[Option.bind_some];simp only at hk;cases e2:q.dst with
  |none=>rfl
  |some d=>
   rw[e2] at hk;simp only[Option.bind_some];simp only at hk;cases e4:t.get d with
   |none=>rw[e4] at hk;cases hk
   |some y=>
    have hv:=ht.2 d y e4;rw[Array.getD_eq_getD_getElem?] at hv;cases e3:a.tmps[d]? with
    |none=>rw[e3] at hv;cases y<;>first|rfl|(exfalso;simp only[Option.getD_none,VR,Go.undef] at hv;cases hv)
    |some v=>
     rw[e3] at hv;simp only[Option.getD_some] at hv;cases v with
     |bool c=>rw[IM hv]
     |_=>cases y<;>first|rfl|(exfalso;simp only[VR] at hv;cases hv)
theorem MT{ops:Array Oper}{nt:Nat}{a:Act}{g:Nat×Bool}(ht:TR ρ nt t a.tmps)(hg:o.guard=some g)(hk:mX ops t g.1=true):Region.wanted o (yielded ops a.tmps)=la ops g t:=by
 unfold Region.wanted la;rw[hg];simp only[MS ht g.1 hk];cases w6 ops t g.1 with
 |none=>rfl
 |some b=>cases b<;>cases g.2<;>rfl
theorem uH{nt:Nat}{dst:Option Tmp}{v:AV}{t1:Tr AV}(h:eU nt t dst v=some t1):(dst=none/\t1=t)\/∃d,dst=some d/\d<nt/\t1=t.put d (some v):=by
 cases dst with
 |none=>injection h with h;exact .inl ⟨rfl,h.symm⟩
 |some d=>
  have h': @Bool.rec (fun _=>Option<|Tr AV) none (some<|t.put d<|some v) (Nat.blt d nt)=some t1:=h;rw[uN] at h';by_cases q:d<nt
  ·rw[if_pos q] at h';injection h' with h';exact .inr ⟨d,rfl,q,h'.symm⟩
  ·rw[if_neg q] at h';cases h'
theorem z5{nt:Nat}{dst:Option Tmp}{y:AV}{v:Value}{t1:Tr AV}{a:Act}(ht:TR ρ nt t a.tmps)(gH:nt<=top)(h:eU nt t dst y=some t1)(hv:VR ρ y v):TR ρ nt t1 (a.put dst v).tmps/\(a.put dst v).defers=a.defers:=by
 rcases uH h with⟨rfl,rfl⟩|⟨d,rfl,hd,rfl⟩
 ·exact⟨ht,rfl⟩
 ·exact⟨ht.set hd gH hv,rfl⟩
structure At (B:aH) (ρ:aj) (s:AS) (nt:Nat) (t:Tr AV) (w:World) (a:Act):Prop where
 tr:TR ρ nt t a.tmps
 rel:Rel B ρ s.h w
 g:eh ρ
 nt:nt<=top
 bo:aS s
def vH(P:Program)(B:aH)(ρ:aj)(s s1:AS)(nt:Nat)(t1:Tr AV)(w:World)(a:Act)(m:Machine)(m':Act->World->Machine):Prop:=∃σ a' w',Ext s.nx s1.nx ρ σ/\At B σ s1 nt t1 w' a'/\a'.defers=a.defers/\bp B w w'/\Steps P m (m' a' w')
theorem H7{ops:Array Oper}{i nt:Nat}{a:Act}{t1:Tr AV}(hc:dD P B U7)(hl:∀t a,U5<|U7 t a)(ho:ops[i]? =some o)(aC:At B ρ s nt t w a)(hf:bL s.nx s1.nx ρ)(h:dz P U7 nt ops o t s= .ok t1 s1)(b:Frame)(k:List Item)(cs:List Frame)(rest:List Nat):
 vH P B ρ s s1 nt t1 w a (lone (b.atR a<|.inRegion ops (i::rest)::k) cs w) (fun a' w'=>lone (b.atR a'<|.inRegion ops rest::k) cs w'):=by
 have main:∀(f:(bC P o.op).val U7 t s=(bC P o.op).val U7 t s),Region.wanted o (yielded ops a.tmps)=true->mz (bC P o.op) o.dst U7 nt t s= .ok t1 s1->
  vH P B ρ s s1 nt t1 w a (lone (b.atR a<|.inRegion ops (i::rest)::k) cs w) (fun a' w'=>lone (b.atR a'<|.inRegion ops rest::k) cs w'):=by
  intro _ hw hk;unfold mz at hk;obtain⟨v,s2,h1,h2⟩:=M.aL hk;obtain⟨h3,rfl⟩:=dt h2;obtain⟨hd,hb⟩:=Qo hc hl aC.tr aC.g aC.bo aC.rel hf h1;obtain⟨u,w',⟨σ,e1,e2,e3,e4⟩,st⟩:=G4 ho hw hd hb b k cs rest;obtain⟨q1,q2⟩:=z5 (aC.tr.mono e1.le) aC.nt h3 e2;exact⟨σ,a.put o.dst u,w',e1,⟨q1,e3,aC.g.mono e1.le,aC.nt,(U5.yD P hl t o.op).bo aC.bo h1⟩,q2,e4,st⟩
 unfold dz sW at h;cases hg:o.guard with
 |none=>rw[hg] at h;exact main rfl (by unfold Region.wanted;rw[hg]) h
 |some g=>
  rw[hg] at h;have h':ni ops g (bC P o.op) o.dst U7 nt t s= .ok t1 s1:=h;unfold ni at h';obtain⟨hk,h'⟩:=bP h';have hw:=MT (ops:=ops) aC.tr hg hk;cases q:la ops g t with
  |true=>rw[q] at h' hw;exact main rfl hw h'
  |false=>rw[q] at h' hw;obtain⟨h3,rfl⟩:=dt (show lift (eU nt t o.dst jN) s= .ok t1 s1 from h');obtain⟨q1,q2⟩:=z5 aC.tr aC.nt h3<|VR.undef ρ;have hs:=stepR_op_skip (P:=P) (b:=b) (a:=a) (k:=k) (cs:=cs) (w:=w) (ops:=ops) (i:=i) (rest:=rest) (by simp[ho];simpa using hw);simp only[ho,Option.bind_some] at hs;exact⟨ρ,a.put o.dst undef,w,Ext.refl _ _ _,⟨q1,aC.rel,aC.g,aC.nt,aC.bo⟩,q2,bp.refl _ _,.one hs⟩
theorem C3{ops:Array Oper}{nt:Nat}(hc:dD P B U7)(hl:∀t a,U5<|U7 t a)(b:Frame)(k:List Item)(cs:List Frame):∀(n i:Nat) (l:List Oper) {t t1:Tr AV} {s s1:AS} {ρ:aj} {a:Act} {w:World},l.length=n->ops.toList.drop i=l->
 At B ρ s nt t w a->bL s.nx s1.nx ρ->fY P U7 nt ops l t s= .ok t1 s1->
 vH P B ρ s s1 nt t1 w a (lone (b.atR a<|.inRegion ops (List.range' i n)::k) cs w) (fun a' w'=>lone (b.atR a' k) cs w')
 |0,i,l,t,t1,s,s1,ρ,a,w,hn,_,aC,_,h=>by have:l=[]:=List.eq_nil_of_length_eq_zero hn;subst this;obtain⟨rfl,rfl⟩:=aQ (show M.pure t s= .ok t1 s1 from h);exact⟨ρ,a,w,Ext.refl _ _ _,aC,rfl,bp.refl _ _,.one stepR_region_end⟩
 |n+1,i,l,t,t1,s,s1,ρ,a,w,hn,jH,aC,hf,h=>by
  cases l with
  |nil=>cases hn
  |cons o l=>
   obtain⟨t2,s2,h1,h2⟩:=M.aL (show((dz P U7 nt ops o t).bind<|fY P U7 nt ops l) s= .ok t1 s1 from h);have ho:ops[i]? =some o:=by
    have:(ops.toList.drop i)[0]? =some o:=by rw[jH];rfl
    rw[List.getElem?_drop] at this;simpa using this
   have Rm:ops.toList.drop (i+1)=l:=by rw[←List.drop_drop,jH];rfl
   have gu:s.nx<=s2.nx:=(U5.dz P hl nt ops o t).le aC.bo h1;have bU:aS s2:=(U5.dz P hl nt ops o t).bo aC.bo h1;have kR:s2.nx<=s1.nx:=(U5.fY P hl nt ops l t2).le bU h2;obtain⟨σ,a',w',e1,e2,e3,e4,e5⟩:=H7 hc hl ho aC (hf.sub (Nat.le_refl _) kR) h1 b k cs<|List.range' (i+1) n;obtain⟨τ,tS,iB,f1,f2,f3,f4,f5⟩:=C3 hc hl b k cs n (i+1) l (by simpa using hn) Rm e2 (hf.next gu e1) h2;exact⟨τ,tS,iB,e1.trans gu kR f1,f2,f3.trans e3,e4.trans f4,by rw[List.range'_succ];exact Steps.trans e5 f5⟩
theorem Nt{ops:Array Oper}{nt id:Nat}{t1:Tr AV}{a:Act}(hc:dD P B U7)(hl:∀t a,U5<|U7 t a)(aC:At B ρ s nt t w a)(hf:bL s.nx s1.nx ρ)(h:fY P U7 nt ops ops.toList t s= .ok t1 s1)(b:Frame)(k:List Item)(cs:List Frame):
 vH P B ρ s s1 nt t1 w a (lone (b.atR a<|.code (.region id ops false)::k) cs w) (fun a' w'=>lone (b.atR a' k) cs w'):=by
 obtain⟨σ,a',w',e1,e2,e3,e4,e5⟩:=C3 hc hl b k cs ops.size 0 ops.toList (by simp) (by simp) aC hf h;exact⟨σ,a',w',e1,e2,e3,e4,.head stepR_region (by rw[List.range_eq_range'];exact e5)⟩
end
end Go.Rn
namespace Go.Rn
open Go.RowKit
def jM(acc:Array Nat)(o:Oper):Nat:=o.after.foldl (fun s e=>if Region.binds .any e then s|||2 ^ e.on|||acc.getD e.on 0 else s) 0
theorem Gq(acc:Array Nat)(o:Oper)(i:Nat):(jM acc o).testBit i=true↔∃e∈o.after.toList,Region.binds .any e=true/\(e.on=i\/(acc.getD e.on 0).testBit i=true):=by
 unfold jM;rw[←Array.foldl_toList];have:∀(l:List Edge) (s:Nat),(l.foldl (fun s e=>if Region.binds .any e then s|||2 ^ e.on|||acc.getD e.on 0 else s) s).testBit i=true↔
  s.testBit i=true\/∃e∈l,Region.binds .any e=true/\(e.on=i\/(acc.getD e.on 0).testBit i=true):=by
  intro l;induction l with
  |nil=>intro s;simp
  |cons e l ih=>
   intro s;rw[List.foldl_cons,ih];by_cases q:Region.binds .any e=true
   ·rw[if_pos q];simp only[Nat.testBit_or,Bool.or_eq_true,Nat.testBit_two_pow,decide_eq_true_eq,List.mem_cons,exists_eq_or_imp,q,true_and];constructor
    ·rintro ((h|h)|h)
     ·rcases h with h|h
      ·exact .inl h
      ·exact .inr<|.inl<|.inl h
     ·exact .inr<|.inl<|.inr h
     ·exact .inr<|.inr h
    ·rintro (h|(h|h)|h)
     ·exact .inl<|.inl<|.inl h
     ·exact .inl<|.inl<|.inr h
     ·exact .inl<|.inr h
     ·exact .inr h
   ·rw[if_neg q];simp only[List.mem_cons,exists_eq_or_imp,q,false_and,false_or,Bool.false_eq_true]
 have h:=this o.after.toList 0;simpa using h
theorem Ch(l:List Oper):∀(acc:Array Nat),(l.foldl (fun acc o=>acc.push<|jM acc o) acc).size=acc.size+l.length/\
 (∀k,k<acc.size->(l.foldl (fun acc o=>acc.push<|jM acc o) acc).getD k 0=acc.getD k 0):=by
 induction l with
 |nil=>intro acc;exact⟨by simp,fun k _=>rfl⟩
 |cons o l ih=>intro acc;rw[List.foldl_cons];obtain⟨h1,h2⟩:=ih<|acc.push<|jM acc o;refine⟨by rw[h1];simp;omega,fun k hk=>?_⟩;rw[h2 k (by simp;omega)];simp only[Array.getD_eq_getD_getElem?,Array.getElem?_push];rw[if_neg<|by omega]
theorem Hx{ops:Array Oper}{j:Nat}{o:Oper}(ho:ops[j]? =some o):
 (Region.before ops).getD j 0=jM ((ops.toList.take j).foldl (fun acc o=>acc.push<|jM acc o) #[]) o/\
 ∀k,k<j->((ops.toList.take j).foldl (fun acc o=>acc.push<|jM acc o) #[]).getD k 0=(Region.before ops).getD k 0:=by
 have hb:Region.before ops=ops.toList.foldl (fun acc o=>acc.push<|jM acc o) #[]:=by unfold Region.before;rw[←Array.foldl_toList];rfl
 have hj:j<ops.toList.length:=by have:=(Array.getElem?_eq_some_iff.1 ho).1;simpa using this
 have iy:ops.toList[j]? =some o:=by simpa using ho
 have Qp:ops.toList=ops.toList.take j++o::ops.toList.drop (j+1):=by
  have e:ops.toList.drop j=o::ops.toList.drop (j+1):=by rw[List.drop_eq_getElem_cons hj];congr 1;rw[List.getElem?_eq_getElem hj] at iy;injection iy
  rw[←e,List.take_append_drop]
 obtain⟨s1,_⟩:=Ch (ops.toList.take j) #[];have gU:((ops.toList.take j).foldl (fun acc o=>acc.push<|jM acc o) #[]).size=j:=by rw[s1,List.length_take,Nat.min_eq_left<|by omega];exact Nat.zero_add j
 generalize hA:(ops.toList.take j).foldl (fun acc o=>acc.push<|jM acc o) #[]=A at*;have pR:Region.before ops=(ops.toList.drop<|j+1).foldl (fun acc o=>acc.push<|jM acc o) (A.push<|jM A o):=by
  rw[hb]
  conv=>lhs;rw[Qp]
  rw[List.foldl_append,hA,List.foldl_cons]
 obtain⟨_,q2⟩:=Ch (ops.toList.drop<|j+1)<|A.push<|jM A o;refine⟨?_,fun k hk=>?_⟩
 ·rw[pR,q2 j (by simp;omega)];rw[Array.getD_eq_getD_getElem?,Array.getElem?_push,if_pos gU.symm];rfl
 ·rw[pR,q2 k (by simp;omega)];simp only[Array.getD_eq_getD_getElem?,Array.getElem?_push];rw[if_neg<|by omega]
theorem GJ(ops:Array Oper):(Region.before ops).size=ops.size:=by
 have hb:Region.before ops=ops.toList.foldl (fun acc o=>acc.push<|jM acc o) #[]:=by unfold Region.before;rw[←Array.foldl_toList];rfl
 rw[hb,(Ch ops.toList #[]).1];simp
theorem Mk{ops:Array Oper}(he:Ak ops)(D:Nat->Prop)(hD:∀(j:Nat) (o:Oper) (e:Edge),ops[j]? =some o->D j->e∈o.after->Region.binds .any e=true->D e.on):
 ∀(n j i:Nat),j<=n->((Region.before ops).getD j 0).testBit i=true->i<j/\(D j->D i)/\((∀(o:Oper) (e:Edge),ops[j]? =some o->e∈o.after->Region.binds .any e=true->D e.on)->D i):=by
 intro n;induction n with
 |zero=>
  intro j i hj h;have:j=0:=by omega
  subst this;cases ho:ops[0]? with
  |none=>
   have:¬0<(Region.before ops).size:=by rw[GJ];intro q;rw[Array.getElem?_eq_getElem q] at ho;cases ho
   rw[Array.getD_eq_getD_getElem?,Array.getElem?_eq_none<|by omega] at h;simp at h
  |some o=>obtain⟨h1,_⟩:=Hx ho;rw[h1,Gq] at h;obtain⟨e,hm,tT,_⟩:=h;exact absurd (he 0 o e ho (Array.mem_toList_iff.1 hm) tT)<|Nat.not_lt_zero _
 |succ n ih=>
  intro j i hj h;by_cases q:j<=n
  ·exact ih j i q h
  ·have:j=n+1:=by omega
   subst this;cases ho:ops[n+1]? with
   |none=>
    have:¬n+1<(Region.before ops).size:=by rw[GJ];intro q;rw[Array.getElem?_eq_getElem q] at ho;cases ho
    rw[Array.getD_eq_getD_getElem?,Array.getElem?_eq_none<|by omega] at h;simp at h
   |some o=>
    obtain⟨h1,h2⟩:=Hx ho;rw[h1,Gq] at h;obtain⟨e,hm,tT,ct⟩:=h;have da:=Array.mem_toList_iff.1 hm;have aW:=he (n+1) o e ho da tT;rcases ct with rfl|ct
    ·exact⟨aW,fun Fb=>hD _ o e ho Fb da tT,fun ga=>ga o e rfl da tT⟩
    ·rw[h2 e.on aW] at ct;obtain⟨a,b,_⟩:=ih e.on i (by omega) ct;exact⟨by omega,fun Fb=>b<|hD _ o e ho Fb da tT,fun ga=>b<|ga o e rfl da tT⟩
def open_(listed:Array Bool):Nat:=(List.range listed.size).countP fun i=> !listed.getD i true
theorem NU{n i:Nat}{p q:Nat->Bool}(hi:i<n)(hp:p i=true)(hq:q i=false)(bS:∀k,k≠i->q k=p k):(List.range n).countP q<(List.range n).countP p:=by
 induction n with
 |zero=>omega
 |succ n ih=>
  rw[List.range_succ,List.countP_append,List.countP_append];by_cases e:i=n
  ·subst e;have:(List.range i).countP q=(List.range i).countP p:=by
    apply List.countP_congr;intro k hk;have:k≠i:=by have:=List.mem_range.1 hk;omega
    rw[bS k this]
   rw[this];simp[hp,hq]
  ·have:=ih (by omega);have e2:(List.countP q [n])=List.countP p [n]:=by simp[List.countP_cons,bS n<|Ne.symm e]
   rw[e2];omega
theorem OQ{listed:Array Bool}{i:Nat}(hi:listed.getD i true=false):open_ (listed.setIfInBounds i true)<open_ listed:=by
 have aW:i<listed.size:=by
  rcases Nat.lt_or_ge i listed.size with q|q
  ·exact q
  ·rw[Array.getD_eq_getD_getElem?,Array.getElem?_eq_none q] at hi;cases hi
 unfold open_;rw[Array.size_setIfInBounds];refine NU aW (by simp[hi]) ?_ fun k hk=>?_
 ·simp[Array.getD_eq_getD_getElem?,Array.getElem?_setIfInBounds_self_of_lt aW]
 ·simp only[Array.getD_eq_getD_getElem?];rw[Array.getElem?_setIfInBounds_ne<|by omega]
theorem NV{listed:Array Bool}(h:open_ listed=0):∀i,i<listed.size->listed.getD i false=true:=by intro i hi;unfold open_ at h;rw[List.countP_eq_zero] at h;have:=h i<|List.mem_range.2 hi;rw[Array.getD_eq_getD_getElem?,Array.getElem?_eq_getElem hi] at this ⊢;simpa using this
theorem Nu{ops:Array Oper}(he:Ak ops){listed:Array Bool}(hs:listed.size=ops.size)(hr:Region.ready .any ops listed=[]):∀n i,i<n->i<ops.size->listed.getD i false=true:=by
 intro n;induction n with
 |zero=>intro i hi;omega
 |succ n ih=>
  intro i hi aW;by_cases q:i<n
  ·exact ih i q aW
  ·have:i=n:=by omega
   subst this;cases h:listed.getD i false with
   |true=>rfl
   |false=>
    exfalso;have nr:i∈Region.ready .any ops listed:=by
     unfold Region.ready;rw[List.mem_filter];refine⟨List.mem_range.2 aW,?_⟩;have h1:listed.getD i true=false:=by rw[Array.getD_eq_getD_getElem?,Array.getElem?_eq_getElem<|by omega] at h ⊢;simpa using h
     rw[h1,Array.getElem?_eq_getElem aW];simp only[Bool.not_false,Bool.true_and,Option.map_some,Option.getD_some];rw[Array.all_eq_true_iff_forall_mem];intro e hm;cases hb:Region.binds .any e with
     |false=>rfl
     |true=>have Sn:=he i ops[i] e (Array.getElem?_eq_getElem aW) hm hb;simp only[Bool.not_true,Bool.false_or];exact ih e.on Sn (by omega)
    rw[hr] at nr;cases nr
section
variable {P:Program} {ops:Array Oper}
theorem NW(he:Ak ops)(b:Frame)(k:List Item)(cs:List Frame)(Inv:Array Bool->Act->World->Prop)(Ro:∀(listed:Array Bool) (a:Act) (w:World) (i:Nat) (o:Oper) (rest:List Nat),listed.size=ops.size->Inv listed a w->ops[i]? =some o->listed.getD i true=false->
 (∀e∈o.after,Region.binds .any e=true->listed.getD e.on false=true)->
 ∃a' w',Inv (listed.setIfInBounds i true) a' w'/\Steps P (lone (b.atR a<|.inRegion ops (i::rest)::k) cs w) (lone (b.atR a'<|.inRegion ops rest::k) cs w')):
 ∀(fuel t:Nat) (listed:Array Bool) (a:Act) (w:World),listed.size=ops.size->open_ listed<=fuel->Inv listed a w->∃sw a' w',sw.size=ops.size/\(∀i,i<ops.size->sw.getD i false=true)/\Inv sw a' w'/\Steps P (lone (b.atR a<|.inRegion ops (Region.linearise.go .any ops fuel t listed [])::k) cs w) (lone (b.atR a' k) cs w'):=by
 intro fuel;induction fuel with
 |zero=>
  intro t listed a w hs ho hi;refine⟨listed,a,w,hs,?_,hi,?_⟩
  ·intro i aW;exact NV (by omega) i (by omega)
  ·simp only[Region.linearise.go,List.reverse_nil];exact .one stepR_region_end
 |succ fuel ih=>
  intro t listed a w hs ho hi;simp only[Region.linearise.go];change ∃sw a' w',sw.size=ops.size/\(∀i,i<ops.size->sw.getD i false=true)/\Inv sw a' w'/\
   Steps P (lone (b.atR a<|.inRegion ops (match (Region.ready .any ops listed)[t % (Region.ready .any ops listed).length]? with
    |some i=>Region.linearise.go .any ops fuel (t / (Region.ready .any ops listed).length) (listed.setIfInBounds i true) [i]
    |none=>[].reverse)::k) cs w) (lone (b.atR a' k) cs w')
  cases hq:(Region.ready .any ops listed)[t % (Region.ready .any ops listed).length]? with
  |none=>
   have So:Region.ready .any ops listed=[]:=by
    cases hr:Region.ready .any ops listed with
    |nil=>rfl
    |cons x xs=>rw[hr] at hq;have aW:t % (x::xs).length<(x::xs).length:=Nat.mod_lt _ (by simp);simp at hq;simp at aW;omega
   refine⟨listed,a,w,hs,fun i aW=>Nu he hs So (i+1) i (by omega) aW,hi,?_⟩;simp only[List.reverse_nil];exact .one stepR_region_end
  |some i=>
   simp only[];have nr:=List.mem_of_getElem? hq;unfold Region.ready at nr;rw[List.mem_filter,Bool.and_eq_true] at nr;obtain⟨aW,h1,h2⟩:=nr;have ya:=List.mem_range.1 aW;have Ld:ops[i]? =some ops[i]:=Array.getElem?_eq_getElem ya;rw[Ld] at h2;simp only[Option.map_some,Option.getD_some] at h2;rw[Array.all_eq_true_iff_forall_mem] at h2;have pL:listed.getD i true=false:=by simpa using h1
   rw[linearise_go_acc,List.reverse_singleton,List.singleton_append];obtain⟨a',w',j1,j2⟩:=Ro listed a w i ops[i] (Region.linearise.go .any ops fuel (t / (Region.ready .any ops listed).length) (listed.setIfInBounds i true) []) hs hi Ld pL (fun e hm hb=>by have:=h2 e hm;rw[hb] at this;simpa using this);obtain⟨l',tS,iB,k0,k1,k2,k3⟩:=ih (t / (Region.ready .any ops listed).length) (listed.setIfInBounds i true) a' w' (by simp[hs]) (by have:=OQ pL;omega) j1;exact⟨l',tS,iB,k0,k1,k2,Steps.trans j2 k3⟩
theorem OS(n:Nat):open_ (Array.replicate n false)<=n:=by unfold open_;have:=List.countP_le_length (p:=fun i=> !(Array.replicate n false).getD i true) (l:=List.range (Array.replicate n false).size);simpa using this
end
end Go.Rn
namespace Go.Rn
open Go.RowKit
section
variable {P:Program} {U7:aJ} {t u:Tr AV}
theorem zG{f g:Operand->Option AV}:∀{l:List Operand},(∀y∈l,f y=g y)->eJ f l=eJ g l
 |[],_=>rfl
 |y::l,h=>by simp only[eJ,h y List.mem_cons_self,zG fun z hz=>h z<|List.mem_cons_of_mem _ hz]
theorem Ci{f g:Operand->Option AV}:∀{l:List<|Nat×Operand},(∀y∈l,f y.2=g y.2)->oc f l=oc g l
 |[],_=>rfl
 |(i,y)::l,h=>by simp only[oc,h (i,y) List.mem_cons_self,Ci fun z hz=>h z<|List.mem_cons_of_mem _ hz]
theorem CC{f g:Operand->Option AV}{y:Option Operand}(h:∀z,y=some z->f z=g z):opt f y=opt g y:=by
 cases y with
 |none=>rfl
 |some z=>simp only[opt,h z rfl]
theorem NX{op:Op}(h:∀y∈op.operands,ar t y=ar u y):(bC P op).val U7 t=(bC P op).val U7 u:=by
 cases op
 case move y=>show od y U7 t=od y U7 u;simp only[od,h y<|by simp[Op.operands]]
 case assign y=>show od y U7 t=od y U7 u;simp only[od,h y<|by simp[Op.operands]]
 case pick c p q=>show sU c p q U7 t=sU c p q U7 u;simp only[sU,h c (by simp[Op.operands]),h p (by simp[Op.operands]),h q<|by simp[Op.operands]]
 case alloc e=>rfl
 case box e y=>show tg y U7 t=tg y U7 u;simp only[tg,h y<|by simp[Op.operands]]
 case build ty parts=>show sE P ty parts.toList U7 t=sE P ty parts.toList U7 u;simp only[sE,Ci (f:=ar t) (g:=ar u) (l:=parts.toList) fun y hy=>h y.2 (by simp only[Op.operands,List.mem_toArray];exact List.mem_map_of_mem hy)]
 case buildSlice ty len parts=>show rE P ty len parts.toList U7 t=rE P ty len parts.toList U7 u;simp only[rE,Ci (f:=ar t) (g:=ar u) (l:=parts.toList) fun y hy=>h y.2 (by simp only[Op.operands,List.mem_toArray];exact List.mem_map_of_mem hy)]
 case load ty y=>show ng P ty y U7 t=ng P ty y U7 u;simp only[ng,h y<|by simp[Op.operands]]
 case store ty y z=>show o4 P ty y z U7 t=o4 P ty y z U7 u;simp only[o4,h y (by simp[Op.operands]),h z<|by simp[Op.operands]]
 case nilCheck y=>show rI y U7 t=rI y U7 u;simp only[rI,h y<|by simp[Op.operands]]
 case binOp op ty y z v=>show gB P op ty y z U7 t=gB P op ty y z U7 u;simp only[gB,h y (by simp[Op.operands]),h z<|by simp[Op.operands]]
 case unOp op ty y=>show tH op y U7 t=tH op y U7 u;simp only[tH,h y<|by simp[Op.operands]]
 case convert src dst y=>show rO P src dst y U7 t=rO P src dst y U7 u;simp only[rO,h y<|by simp[Op.operands]]
 case makeInterface ty y=>show rA P ty y U7 t=rA P ty y U7 u;simp only[rA,h y<|by simp[Op.operands]]
 case makeFunc fn first captured=>show rJ fn first.toList captured.toList U7 t=rJ fn first.toList captured.toList U7 u;simp only[rJ,zG (f:=ar t) (g:=ar u) (l:=first.toList) fun y hy=>h y (by simp only[Op.operands,Array.mem_append];exact .inl<|Array.mem_toList_iff.1 hy),zG (f:=ar t) (g:=ar u) (l:=captured.toList) fun y hy=>h y (by simp only[Op.operands,Array.mem_append];exact .inr<|Array.mem_toList_iff.1 hy)]
 case makeMap ty y=>
  cases y with
  |none=>rfl
  |some y=>show rP P ty (some y) U7 t=rP P ty (some y) U7 u;simp only[rP,h y<|by simp[Op.operands]]
 case makeSlice ty l c=>show oQ P ty l c U7 t=oQ P ty l c U7 u;simp only[oQ,h l (by simp[Op.operands]),h c<|by simp[Op.operands]]
 case slice ty y lo hi mx=>show lh P ty y lo hi mx U7 t=lh P ty y lo hi mx U7 u;simp only[lh,h y (by simp[Op.operands]),CC (f:=ar t) (g:=ar u) (y:=lo) (fun z hz=>h z<|by simp[Op.operands,hz]),CC (f:=ar t) (g:=ar u) (y:=hi) (fun z hz=>h z<|by simp[Op.operands,hz]),CC (f:=ar t) (g:=ar u) (y:=mx) fun z hz=>h z<|by simp[Op.operands,hz]]
 case fieldAddr ty y f=>show rH P ty y f U7 t=rH P ty y f U7 u;simp only[rH,h y<|by simp[Op.operands]]
 case field ty y f=>show sH P ty y f U7 t=sH P ty y f U7 u;simp only[sH,h y<|by simp[Op.operands]]
 case indexAddr ty y z=>show kV P ty y z U7 t=kV P ty y z U7 u;simp only[kV,h y (by simp[Op.operands]),h z<|by simp[Op.operands]]
 case index ty y z=>show sI P ty y z U7 t=sI P ty y z U7 u;simp only[sI,h y (by simp[Op.operands]),h z<|by simp[Op.operands]]
 case lookup ty y z ok=>show kZ P ty y z ok U7 t=kZ P ty y z ok U7 u;simp only[kZ,h y (by simp[Op.operands]),h z<|by simp[Op.operands]]
 case mapUpdate ty m k y=>show iR P ty m k y U7 t=iR P ty m k y U7 u;simp only[iR,h m (by simp[Op.operands]),h k (by simp[Op.operands]),h y<|by simp[Op.operands]]
 case insert ty m k y=>show iR P ty m k y U7 t=iR P ty m k y U7 u;simp only[iR,h m (by simp[Op.operands]),h k (by simp[Op.operands]),h y<|by simp[Op.operands]]
 case typeAssert y xt asserted ok=>show sj P asserted ok y U7 t=sj P asserted ok y U7 u;simp only[sj,h y<|by simp[Op.operands]]
 case range ty y=>show sJ P ty y U7 t=sJ P ty y U7 u;simp only[sJ,h y<|by simp[Op.operands]]
 case entry y=>show sK y U7 t=sK y U7 u;simp only[sK,h y<|by simp[Op.operands]]
 case next y Fa=>
  cases Fa with
  |true=>show rQ y U7 t=rQ y U7 u;simp only[rQ,h y<|by simp[Op.operands]]
  |false=>rfl
 case extract y i=>show rR y i U7 t=rR y i U7 u;simp only[rR,h y<|by simp[Op.operands]]
 case call c=>
  obtain⟨callee,args,ts⟩:=c;have ha:∀(cl:Callee),(∀y∈(Op.call ⟨cl,args,ts⟩).operands,ar t y=ar u y)->eJ (ar t) args.toList=eJ (ar u) args.toList:=fun cl hh=>zG fun y hy=>hh y (by simp only[Op.operands,Call.operands,Array.mem_append];exact .inr<|Array.mem_toList_iff.1 hy);cases callee with
  |builtin b=>show iP P b ts args.toList U7 t=iP P b ts args.toList U7 u;simp only[iP,ha _ h]
  |value f=>show nh f args.toList U7 t=nh f args.toList U7 u;simp only[nh,ha _ h,h f<|by simp[Op.operands,Call.operands]]
  |invoke r name=>show sr P r name args.toList U7 t=sr P r name args.toList U7 u;simp only[sr,ha _ h,h r<|by simp[Op.operands,Call.operands]]
 all_goals rfl
theorem OT{y:Operand}(h:∀d,y= .tmp d->t.get d=u.get d):ar t y=ar u y:=by
 cases y with
 |tmp d=>show t.get d=u.get d;rw[h d rfl]
 |_=>rfl
theorem G5{nt:Nat}{ops:Array Oper}{o:Oper}(h:∀d∈o.looksAt ops,t.get d=u.get d){s s1:AS}{t1:Tr AV}(hr:dz P U7 nt ops o t s= .ok t1 s1):
 ∃v,eU nt t o.dst v=some t1/\∀u1,eU nt u o.dst v=some u1->dz P U7 nt ops o u s= .ok u1 s1:=by
 have cM:(bC P o.op).val U7 t=(bC P o.op).val U7 u:=NX fun y hy=>OT fun d hd=>h d (by unfold Oper.looksAt;refine List.mem_append_left _<|List.mem_filterMap.2 ⟨y,Array.mem_toList_iff.2 hy,by rw[hd]⟩);have main:mz (bC P o.op) o.dst U7 nt t s= .ok t1 s1->∃v,eU nt t o.dst v=some t1/\∀u1,eU nt u o.dst v=some u1->mz (bC P o.op) o.dst U7 nt u s= .ok u1 s1:=by intro hk;unfold mz at hk;obtain⟨v,s2,h1,h2⟩:=M.aL hk;obtain⟨h3,rfl⟩:=dt h2;refine⟨v,h3,fun u1 hu=>?_⟩;unfold mz;rw[←cM,M.bg h1];unfold lift;rw[hu]
 unfold dz sW at hr ⊢;cases hg:o.guard with
 |none=>rw[hg] at hr;exact main hr
 |some g=>
  rw[hg] at hr;have tU:ni ops g (bC P o.op) o.dst U7 nt t s= .ok t1 s1:=hr;have hw:la ops g t=la ops g u:=by
   unfold la w6;cases e1:ops[g.1]? with
   |none=>rfl
   |some q=>
    simp only;cases e2:q.dst with
    |none=>rfl
    |some d=>simp only;rw[h d (by unfold Oper.looksAt;refine List.mem_append_right _ ?_;rw[hg];simp[e1,e2])]
  have oC:mX ops t g.1=mX ops u g.1:=by
   unfold mX;cases e1:ops[g.1]? with
   |none=>rfl
   |some q=>
    simp only;cases e2:q.dst with
    |none=>rfl
    |some d=>simp only;rw[h d (by unfold Oper.looksAt;refine List.mem_append_right _ ?_;rw[hg];simp[e1,e2])]
  show ∃v,eU nt t o.dst v=some t1/\∀u1,eU nt u o.dst v=some u1->ni ops g (bC P o.op) o.dst U7 nt u s= .ok u1 s1;unfold ni at tU ⊢;obtain⟨hk,tU⟩:=bP tU;rw[←hw, ←oC,hk,bD];cases q:la ops g t with
  |true=>rw[q] at tU;exact main tU
  |false=>rw[q] at tU;obtain⟨h3,rfl⟩:=dt (show lift (eU nt t o.dst jN) s= .ok t1 s1 from tU);refine⟨jN,h3,fun u1 hu=>?_⟩;show lift (eU nt u o.dst jN) s1= .ok u1 s1;unfold lift;rw[hu]
end
end Go.Rn
namespace Go.Rn
open Go.RowKit
theorem Rel.congr{B:aH}{ρ:aj}{h h':Tr U}{w:World}(r:Rel B ρ h w)(e:∀m,m<top->h'.get m=h.get m):Rel B ρ h' w:=by
 refine⟨fun n o hn hg=>r.is n o hn (by rw[←e n hn];exact hg),fun n m o p b N M hn hm h1 h2 ct=>r.one n m o p b N M hn hm (by rw[←e n hn];exact h1) (by rw[←e m hm];exact h2) ct,fun n m es ex left cur hn h1=>?_,r.size,
  fun i j m es ex left cur dT fM fB fD hi hj h1 h2=>r.lone i j m es ex left cur dT fM fB fD hi hj (by rw[←e i hi];exact h1) (by rw[←e j hj];exact h2),
  r.fz.of (aj.le_refl _) (fun _ _ _=>rfl) (fun b1 _ hn=>hn.sub fun m q hm hq dm=>⟨q,by rw[←e m hm];exact hq,dm⟩),
  r.tk.of (aj.le_refl _) (fun n q hn hq _=>by rw[←e n hn];exact hq) (Nat.le_refl _) (fun _ _ _=>rfl) (fun b1 _ hn=>hn.sub fun m q hm hq dm=>⟨q,by rw[←e m hm];exact hq,dm⟩) (fun _ _ _ _ _ e=>e)⟩
 obtain⟨a,b,c⟩:=r.iter n m es ex left cur hn (by rw[←e n hn];exact h1);exact⟨a,by rw[e m a];exact b,c⟩
theorem Ga{b:Array Nat}{x:bM}:∀{all:List bM},mL b x all=true->∀y∈all,x.i=y.i\/mY x y=true\/loose b x.i y.i=false
 |[],_,y,hy=>by cases hy
 |z::l,h,y,hy=>by
  simp only[mL] at h;cases q:(Nat.beq x.i z.i||(mY x z|| !loose b x.i z.i)) with
  |false=>rw[q] at h;cases h
  |true=>
   rw[q] at h;rcases List.mem_cons.1 hy with rfl|hy
   ·simp only[Bool.or_eq_true,Bool.not_eq_true'] at q;rcases q with q|q|q
    ·exact .inl<|cC.1 q
    ·exact .inr<|.inl q
    ·exact .inr<|.inr q
   ·exact Ga h y hy
theorem Hy{b:Array Nat}{all:List bM}:∀{l:List bM},lp b all l=true->∀x∈l,mZ x=true\/mL b x all=true
 |[],_,x,hx=>by cases hx
 |z::l,h,x,hx=>by
  simp only[lp] at h;cases q:(mZ z||mL b z all) with
  |false=>rw[q] at h;cases h
  |true=>
   rw[q] at h;rcases List.mem_cons.1 hx with rfl|hx
   ·exact Bool.or_eq_true_iff.1 q
   ·exact Hy h x hx
theorem GK{m:List Nat}:∀{l:List Nat},meets l m=false->∀x∈l,x ∉ m
 |[],_,x,hx=>by cases hx
 |z::l,h,x,hx=>by
  simp only[meets] at h;cases q:oi z m with
  |true=>rw[q] at h;cases h
  |false=>
   rw[q] at h;rcases List.mem_cons.1 hx with rfl|hx
   ·intro e;rw[uD.2 e] at q;cases q
   ·exact GK h x hx
theorem GL{lo hi:Nat}:∀{l:List Nat},qC lo hi l=false->∀x∈l,¬(lo<=x/\x<hi)
 |[],_,x,hx=>by cases hx
 |z::l,h,x,hx=>by
  simp only[qC] at h;cases q:(Nat.ble lo z&&Nat.blt z hi) with
  |true=>rw[q] at h;cases h
  |false=>
   rw[q] at h;rcases List.mem_cons.1 hx with rfl|hx
   ·rintro ⟨h1,h2⟩;rw[show Nat.ble lo x=true from aK.2 h1,show Nat.blt x hi=true from(blt_eq _ _).mpr h2] at q;cases q
   ·exact GL h x hx
section
variable {P:Program} {U7:aJ} {ops:Array Oper} {nt:Nat}
structure Ew (P:Program) (U7:aJ) (ops:Array Oper) (nt:Nat) (H:Nat->Tr U) (N:Nat->Nat) (T:Nat->Tr AV) (k:Nat) (o:Oper) (x:bM) (s1:AS):Prop where
 lo:x.lo=N k
 hi:x.hi=N (k+1)
 run:dz P U7 nt ops o (T k) ⟨H k,N k,N k,[],[]⟩= .ok (T<|k+1) s1
 h:s1.h=H (k+1)
 nx:s1.nx=N (k+1)
 rd:x.rd=below (N k) s1.rd
 wr:x.wr=below (N k) s1.wr
theorem Hz(hl:∀t a,U5<|U7 t a):∀(l:List Oper) (i:Nat) {t t':Tr AV} {s s':AS} {ms:List bM},aS s->iY P U7 nt ops l i t s= .ok (t',ms) s'->
 aS s'/\∃(H:Nat->Tr U) (N:Nat->Nat) (T:Nat->Tr AV),H 0=s.h/\N 0=s.nx/\T 0=t/\H l.length=s'.h/\N l.length=s'.nx/\T l.length=t'/\(∀k,k<=l.length->N k<=top)/\∀k o,l[k]? =some o->∃x s1,ms[k]? =some x/\x.i=i+k/\Ew P U7 ops nt H N T k o x s1
 |[],i,t,t',s,s',ms,fi,h=>by obtain⟨e,rfl⟩:=aQ (show M.pure (t,[]) s= .ok (t',ms) s' from h);cases e;exact⟨fi,fun _=>s'.h,fun _=>s'.nx,fun _=>t,rfl,rfl,rfl,rfl,rfl,rfl,fun _ _=>fi.nx,fun k o h=>by simp at h⟩
 |o::l,i,t,t',s,s',ms,fi,h=>by
  obtain⟨x,s2,h1,h2⟩:=M.aL (show((alone i<|dz P U7 nt ops o t).bind fun x=>(iY P U7 nt ops l (i+1) x.1).bind fun y=>M.pure (y.1,x.2::y.2)) s= .ok (t',ms) s' from h);obtain⟨y,s3,h3,h4⟩:=M.aL h2;obtain⟨e,rfl⟩:=aQ h4;cases e;obtain⟨a,s1,g1,rfl,rfl⟩:=Hm h1;have Fc:aS s1:=(U5.dz P hl nt ops o t).bo (s:=⟨s.h,s.nx,s.nx,[],[]⟩) ⟨Nat.le_refl _,fi.nx⟩ g1;have Ty:s.nx<=s1.nx:=(U5.dz P hl nt ops o t).le (s:=⟨s.h,s.nx,s.nx,[],[]⟩) ⟨Nat.le_refl _,fi.nx⟩ g1;have bU:aS ⟨s1.h,s1.nx,s.mark,below s.mark s1.rd++s.rd,below s.mark s1.wr++s.wr⟩:=⟨Nat.le_trans fi.mark Ty,Fc.nx⟩;obtain⟨f3,H,N,T,a1,a2,a3,a4,a5,a6,a7,a8⟩:=Hz hl l (i+1) (t':=y.1) (ms:=y.2) bU h3;refine⟨f3,fun k=>match k with|0=>s.h|k+1=>H k,fun k=>match k with|0=>s.nx|k+1=>N k,fun k=>match k with|0=>t|k+1=>T k,rfl,rfl,rfl,a4,a5,a6,?_,?_⟩
  ·intro k hk;cases k with
   |zero=>exact fi.nx
   |succ k=>exact a7 k (by simpa using hk)
  ·intro k o2 hk;cases k with
   |zero=>simp only[List.getElem?_cons_zero,Option.some.injEq] at hk;subst hk;refine⟨_,s1,rfl,rfl,⟨rfl,a2.symm,?_,a1.symm,a2.symm,rfl,rfl⟩⟩;show dz P U7 nt ops o t ⟨s.h,s.nx,s.nx,[],[]⟩= .ok (T 0) s1;rw[a3];exact g1
   |succ k=>simp only[List.getElem?_cons_succ] at hk;obtain⟨x,s4,b1,b2,b3⟩:=a8 k o2 hk;exact⟨x,s4,by simpa using b1,by rw[b2];omega,⟨b3.lo,b3.hi,b3.run,b3.h,b3.nx,b3.rd,b3.wr⟩⟩
structure Text (P:Program) (U7:aJ) (ops:Array Oper) (nt:Nat) (H:Nat->Tr U) (N:Nat->Nat) (T:Nat->Tr AV) (Rd Wr:Nat->Nat->Prop):Prop where
 top:∀k,k<=ops.size->N k<=Rn.top
 up:∀k,k<ops.size->N k<=N (k+1)
 nq:∀k m,k<ops.size->¬Wr k m->m<Rn.top->(H<|k+1).get m=(H k).get m
 made:∀k m,k<ops.size->N k<=m->m<N (k+1)->Wr k m
 wrote:∀k m,k<ops.size->Wr k m->m<N (k+1)/\(m<N k->Rd k m)
 slot:∀k o d,ops[k]? =some o->o.dst≠some d->(T<|k+1).get d=(T k).get d
 apart:∀i j m,i<ops.size->j<ops.size->i≠j->loose (Region.before ops) i j=true->Wr i m->¬Rd j m
 again:∀j o,ops[j]? =some o->∀(h:Tr U),(∀m,m<Rn.top->Rd j m->h.get m=(H j).get m)->∃t1,dz P U7 nt ops o (T j) ⟨h,N j,N j,[],[]⟩= .ok (T<|j+1) t1/\t1.nx=N (j+1)/\
  (∀m,Wr j m->t1.h.get m=(H<|j+1).get m)/\(∀m,¬Wr j m->m<Rn.top->t1.h.get m=h.get m)
theorem PC(hl:∀t a,U5<|U7 t a)(gH:nt<=top){t t':Tr AV}{s s':AS}{ms:List bM}(fi:aS s)(h:iY P U7 nt ops ops.toList 0 t s= .ok (t',ms) s')(hm:lp (Region.before ops) ms ms=true):
 aS s'/\∃(H:Nat->Tr U) (N:Nat->Nat) (T:Nat->Tr AV) (Rd Wr:Nat->Nat->Prop),H 0=s.h/\N 0=s.nx/\T 0=t/\H ops.size=s'.h/\N ops.size=s'.nx/\T ops.size=t'/\Text P U7 ops nt H N T Rd Wr:=by
 obtain⟨f',H,N,T,a1,a2,a3,a4,a5,a6,a7,a8⟩:=Hz hl ops.toList 0 fi h;have hlen:ops.toList.length=ops.size:=by simp
 rw[hlen] at a4 a5 a6 a7;refine⟨f',H,N,T,fun k m=>∃x,ms[k]? =some x/\m∈x.rd,fun k m=>∃x,ms[k]? =some x/\(m∈x.wr\/(N k<=m/\m<N (k+1))),a1,a2,a3,a4,a5,a6,?_⟩;have I:∀k,k<ops.size->∃o x s1,ops[k]? =some o/\ms[k]? =some x/\x.i=k/\Ew P U7 ops nt H N T k o x s1:=by
  intro k hk;have ho:ops.toList[k]? =some ops[k]:=by simp[hk]
  obtain⟨x,s1,b1,b2,b3⟩:=a8 k _ ho;exact⟨ops[k],x,s1,Array.getElem?_eq_getElem hk,b1,by omega,b3⟩
 have v8:∀k,k<ops.size->∀o x s1,Ew P U7 ops nt H N T k o x s1->∃dr dw,iw ⟨H k,N k,N k,[],[]⟩ s1 dr dw/\
  (∀A m0 t,xD A m0 ⟨H k,N k,N k,[],[]⟩ t->(∀q∈dr,q<m0->A q)->∃t1,dz P U7 nt ops o (T k) t= .ok (T<|k+1) t1/\np A m0 s1 t t1 dr dw)/\(∀m,m∈x.rd↔m∈dr/\m<N k)/\(∀m,m∈x.wr↔m∈dw/\m<N k):=by
  intro k hk o x s1 hd;obtain⟨dr,dw,d1,d2⟩:=U5.dz P hl nt ops o (T k) _ _ _ ⟨Nat.le_refl _,a7 k<|by omega⟩ hd.run;refine⟨dr,dw,d1,d2,fun m=>?_,fun m=>?_⟩
  ·rw[hd.rd,lS,d1.rd];simp
  ·rw[hd.wr,lS,d1.wr];simp
 refine⟨a7,?_,?_,?_,?_,?_,?_,?_⟩
 ·intro k hk;obtain⟨o,x,s1,_,_,_,hd⟩:=I k hk;obtain⟨dr,dw,d1,_⟩:=v8 k hk o x s1 hd;have:=d1.nx;rw[hd.nx] at this;exact this
 ·intro k m hk hw gI;obtain⟨o,x,s1,_,hx,_,hd⟩:=I k hk;obtain⟨dr,dw,d1,_,_,d4⟩:=v8 k hk o x s1 hd;rw[←hd.h];by_cases q:m<N k
  ·refine d1.same m q fun e=>hw ⟨_,hx,.inl<|(d4 m).2 ⟨e,q⟩⟩
  ·refine d1.dB m ?_ gI;rw[hd.nx];rcases Nat.lt_or_ge m (N<|k+1) with q2|q2
   ·exact absurd ⟨_,hx,.inr ⟨by omega,q2⟩⟩ hw
   ·exact q2
 ·intro k m hk h1 h2;obtain⟨o,x,s1,_,hx,_,hd⟩:=I k hk;exact⟨x,hx,.inr ⟨h1,h2⟩⟩
 ·rintro k m hk ⟨x',re,hw⟩;obtain⟨o,x,s1,_,hx,_,hd⟩:=I k hk;rw[hx] at re;cases re;obtain⟨dr,dw,d1,_,d3,d4⟩:=v8 k hk o _ s1 hd;have yR:=d1.nx;rw[hd.nx] at yR;have Sq:N k<=N (k+1):=yR;rcases hw with hw|⟨h1,h2⟩
  ·obtain⟨e1,e2⟩:=(d4 m).1 hw;exact⟨by omega,fun _=>⟨_,hx,(d3 m).2 ⟨d1.sub m e1,e2⟩⟩⟩
  ·exact⟨h2,fun q=>by omega⟩
 ·intro k o d ho bS;have hk:k<ops.size:=(Array.getElem?_eq_some_iff.1 ho).1;obtain⟨o',x,s1,iy,hx,_,hd⟩:=I k hk;rw[ho] at iy;cases iy;obtain⟨v,hv,_⟩:=G5 (u:=T k) (fun _ _=>rfl) hd.run;rcases uH hv with⟨_,e⟩|⟨d',e1,e2,e3⟩
  ·rw[e]
  ·rw[e3,Tr.nU _ _ _ _<|Nat.lt_of_lt_of_le e2 gH,if_neg (by intro e;subst e;exact bS e1)]
 ·rintro i j m hi hj bS Qq ⟨x',re,hw⟩ ⟨y',mA,hr⟩;obtain⟨_,x,s1,_,hx,xi,hd⟩:=I i hi;obtain⟨_,y,s2,_,hy,yi,he⟩:=I j hj;rw[hx] at re;cases re;rw[hy] at mA;cases mA;rcases Hy hm _ (List.mem_of_getElem? hx) with q|q
  ·unfold mZ at q;split at q
   ·rename_i Fe;rcases hw with hw|⟨h1,h2⟩
    ·rw[Fe] at hw;cases hw
    ·have:=aK.1 q;rw[hd.lo,hd.hi] at this;omega
   ·cases q
  ·rcases Ga q _ (List.mem_of_getElem? hy) with e|e|e
   ·rw[xi,yi] at e;exact bS e
   ·unfold mY at e;simp only[Bool.and_eq_true,Bool.not_eq_true'] at e;rcases hw with hw|⟨h1,h2⟩
    ·exact GK e.1 m hw hr
    ·exact GL e.2 m hr ⟨by rw[hd.lo];exact h1,by rw[hd.hi];exact h2⟩
   ·rw[xi,yi,Qq] at e;cases e
 ·intro j o ho h' Tz;have hj:j<ops.size:=(Array.getElem?_eq_some_iff.1 ho).1;obtain⟨o',x,s1,iy,hx,_,hd⟩:=I j hj;rw[ho] at iy;cases iy;obtain⟨dr,dw,d1,d2,d3,d4⟩:=v8 j hj o x s1 hd;obtain⟨t1,c1,c2⟩:=d2 (fun m=>∃x,ms[j]? =some x/\m∈x.rd) (N j) ⟨h',N j,N j,[],[]⟩
   ⟨rfl,rfl,Nat.le_refl _,fun k hk ct=>by
    rcases ct with ct|ct
    ·exact(Tz k (Nat.lt_of_lt_of_le hk<|a7 j<|by omega) ct).symm
    ·exact absurd hk<|Nat.not_lt.2 ct⟩ (fun q hq aW=>⟨x,hx,(d3 q).2 ⟨hq,aW⟩⟩)
  have bq:t1.nx=N (j+1):=by rw[←c2.ku.nx,hd.nx]
  refine⟨t1,c1,bq,?_,?_⟩
  ·rintro m ⟨x',re,hw⟩;rw[hx] at re;cases re;rw[←hd.h];have yR:=d1.nx;rw[hd.nx] at yR;have Sq:N j<=N (j+1):=yR;symm;rcases hw with hw|⟨h1,h2⟩
   ·obtain⟨e1,e2⟩:=(d4 m).1 hw;exact c2.ku.is m (by rw[hd.nx];omega)<|.inl ⟨x,hx,(d3 m).2 ⟨d1.sub m e1,e2⟩⟩
   ·exact c2.ku.is m (by rw[hd.nx];exact h2)<|.inr h1
  ·intro m hw gI;by_cases q:m<N j
   ·exact c2.same m q fun e=>hw ⟨_,hx,.inl<|(d4 m).2 ⟨e,q⟩⟩
   ·refine c2.dB m ?_ gI;rw[hd.nx];rcases Nat.lt_or_ge m (N<|j+1) with q2|q2
    ·exact absurd ⟨_,hx,.inr ⟨by omega,q2⟩⟩ hw
    ·exact q2
end
end Go.Rn
namespace Go.Rn
open Go.RowKit
section
variable {P:Program} {B:aH} {U7:aJ} {ops:Array Oper} {nt:Nat} {H:Nat->Tr U} {N:Nat->Nat} {T:Nat->Tr AV} {Rd Wr:Nat->Nat->Prop}
def ij(listed:Array Bool)(i:Nat):Prop:=listed.getD i false=true
def Cut(n:Nat)(W:Nat->Prop)(D:Nat->Prop)(c:Nat):Prop:=c<=n/\∀i,i<n->W i->(D i↔i<c)
theorem G6{α:Type}{f:Nat->α}{n:Nat}{W:Nat->Prop}(hk:∀k,k<n->¬W k->f (k+1)=f k):∀(m c:Nat),c+m<=n->(∀i,c<=i->i<c+m->¬W i)->f (c+m)=f c
 |0,_,_,_=>rfl
 |m+1,c,hn,hw=>by have h1:=hk (c+m) (by omega) (hw (c+m) (by omega)<|by omega);rw[show c+(m+1)=c+m+1 from rfl,h1];exact G6 hk m c (by omega) fun i h1 h2=>hw i h1 (by omega)
theorem z6{α:Type}{f:Nat->α}{n:Nat}{W D:Nat->Prop}(hk:∀k,k<n->¬W k->f (k+1)=f k){c c':Nat}(h:Cut n W D c)(h':Cut n W D c'):f c=f c':=by
 have key:∀{a b:Nat},Cut n W D a->Cut n W D b->a<=b->f b=f a:=by intro a b ha hb nD;obtain⟨m,rfl⟩:∃m,b=a+m:=⟨b - a,by omega⟩;refine G6 hk m a hb.1 fun i h1 h2 hw=>?_;have fw:i<n:=Nat.lt_of_lt_of_le h2 hb.1;have:=(ha.2 i fw hw).1<|(hb.2 i fw hw).2 h2;omega
 rcases Nat.le_total c c' with q|q
 ·exact(key h h' q).symm
 ·exact key h' h q
theorem qx(x:Text P U7 ops nt H N T Rd Wr):∀{i j:Nat},i<=j->j<=ops.size->N i<=N j:=by
 intro i j dp hj;obtain⟨m,rfl⟩:∃m,j=i+m:=⟨j - i,by omega⟩;clear dp;induction m with
 |zero=>exact Nat.le_refl _
 |succ m ih=>exact Nat.le_trans (ih<|by omega) (x.up (i+m)<|by omega)
structure Inv (B:aH) (ops:Array Oper) (nt:Nat) (H:Nat->Tr U) (N:Nat->Nat) (T:Nat->Tr AV) (Wr:Nat->Nat->Prop) (oe:aj) (A9:World) (Ba:Act) (listed:Array Bool) (a:Act) (w:World) (h:Tr U) (t:Tr AV) (ρ:aj):Prop where
 rel:Rel B ρ h w
 tr:TR ρ nt t a.tmps
 le:oe.le ρ
 new:∀m,m<top->ρ m≠oe m->∃i,i<ops.size/\ij listed i/\N i<=m/\m<N (i+1)
 heap:∀m,m<top->∃c,Cut ops.size (fun i=>Wr i m) (ij listed) c/\h.get m=(H c).get m
 vh:∀d,∃c,Cut ops.size (fun i=>∃o,ops[i]? =some o/\o.dst=some d) (ij listed) c/\t.get d=(T c).get d
 below:bp B A9 w
 defers:a.defers=Ba.defers
 closed:∀(j:Nat) (o:Oper) (e:Edge),ops[j]? =some o->ij listed j->e∈o.after->Region.binds .any e=true->ij listed e.on
theorem xb{listed:Array Bool}{j:Nat}(hj:j<listed.size)(i:Nat):ij (listed.setIfInBounds j true) i↔i=j\/ij listed i:=by
 unfold ij;simp only[Array.getD_eq_getD_getElem?];by_cases e:i=j
 ·subst e;rw[Array.getElem?_setIfInBounds_self_of_lt hj];simp
 ·rw[Array.getElem?_setIfInBounds_ne<|Ne.symm e];simp[e]
theorem OU(rf:AL ops)(x:Text P U7 ops nt H N T Rd Wr)(hc:dD P B U7)(hl:∀t a,U5<|U7 t a)(gH:nt<=top){oe:aj}(hg:eh oe)(iZ:bL (N 0) (N ops.size) oe){A9:World}{Ba:Act}{listed:Array Bool}{a:Act}{w:World}{j:Nat}{o:Oper}(hs:listed.size=ops.size){h:Tr U}{t:Tr AV}{ρ:aj}(inv:Inv B ops nt H N T Wr oe A9 Ba listed a w h t ρ)(ho:ops[j]? =some o)(hj:listed.getD j true=false)(Js:∀e∈o.after,Region.binds .any e=true->listed.getD e.on false=true)(b:Frame)(k:List Item)(cs:List Frame)(rest:List Nat):
 ∃a' w' h' t' tV,Inv B ops nt H N T Wr oe A9 Ba (listed.setIfInBounds j true) a' w' h' t' tV/\Steps P (lone (b.atR a<|.inRegion ops (j::rest)::k) cs w) (lone (b.atR a'<|.inRegion ops rest::k) cs w'):=by
 have rh:j<ops.size:=(Array.getElem?_eq_some_iff.1 ho).1;have pS:¬ij listed j:=by unfold ij;rw[Array.getD_eq_getD_getElem?,Array.getElem?_eq_getElem<|by omega] at hj ⊢;simp at hj ⊢;exact hj
 have Kr:=Mk rf.JO (ij listed) inv.closed;have ordered:∀i,i≠j->loose (Region.before ops) i j=false->(ij listed i↔i<j):=by
  intro i dp cx;unfold loose at cx;simp only[Bool.not_eq_false',Bool.or_eq_true] at cx;rcases cx with q|q
  ·obtain⟨h1,h2,_⟩:=Kr i i j (Nat.le_refl _) q;exact⟨fun hd=>absurd (h2 hd) pS,fun e=>by omega⟩
  ·obtain⟨h1,_,h3⟩:=Kr j j i (Nat.le_refl _) q;exact⟨fun _=>h1,fun _=>h3 fun o' e iy hm hb=>by rw[ho] at iy;cases iy;exact Js e hm hb⟩
 have Qr:∀i,loose (Region.before ops) i j=loose (Region.before ops) j i:=by intro i;unfold loose;rw[Bool.or_comm]
 have cutAt:∀(W:Nat->Prop),(∀i,i<ops.size->W i->i≠j->loose (Region.before ops) i j=false)->Cut ops.size W (ij listed) j:=by
  intro W hW;refine⟨Nat.le_of_lt rh,fun i hi hw=>?_⟩;by_cases e:i=j
  ·subst e;exact⟨fun hd=>absurd hd pS,fun q=>absurd q<|Nat.lt_irrefl _⟩
  ·exact ordered i e<|hW i hi hw e
 have IN:∀(W:Nat->Prop),(∀i,i<ops.size->W i->i≠j->loose (Region.before ops) i j=false)->Cut ops.size W (ij<|listed.setIfInBounds j true) (j+1):=by
  intro W hW;refine⟨rh,fun i hi hw=>?_⟩;rw[xb<|by omega];by_cases e:i=j
  ·subst e;exact⟨fun _=>Nat.lt_succ_self _,fun _=>.inl rfl⟩
  ·have:=ordered i e<|hW i hi hw e;constructor
   ·rintro (q|q)
    ·exact absurd q e
    ·have:=this.1 q;omega
   ·intro q;exact .inr (this.2<|by omega)
 have IP:∀(W:Nat->Prop) (c:Nat),¬W j->Cut ops.size W (ij listed) c->Cut ops.size W (ij<|listed.setIfInBounds j true) c:=by
  intro W c hW Ks;refine⟨Ks.1,fun i hi hw=>?_⟩;rw[xb<|by omega];have dp:i≠j:=by intro e;subst e;exact hW hw
  rw[←Ks.2 i hi hw];exact⟨fun q=>q.resolve_left dp,.inr⟩
 have IQ:∀i m,i<ops.size->i≠j->Wr i m->Rd j m->loose (Region.before ops) i j=false:=by
  intro i m hi dp hw hr;cases q:loose (Region.before ops) i j with
  |false=>rfl
  |true=>exact absurd hr<|x.apart i j m hi rh dp q hw
 have Vf:∀m,m<N j->m<top:=fun m hm=>Nat.lt_of_lt_of_le hm (x.top j<|by omega);have Rp:∀m,m<top->Rd j m->h.get m=(H j).get m:=by intro m hm hr;obtain⟨c,pM,j9⟩:=inv.heap m hm;rw[j9];exact z6 (f:=fun c=>(H c).get m) (fun k hk hw=>x.nq k m hk hw hm) pM<|cutAt _ fun i hi hw dp=>IQ i m hi dp hw hr
 have Rq:∀d∈o.looksAt ops,(T j).get d=t.get d:=by
  intro d hd;obtain⟨c,pM,j9⟩:=inv.vh d;rw[j9];refine z6 (f:=fun c=>(T c).get d) (fun k hk hw=>?_) (cutAt _ ?_) pM
  ·have cO:ops[k]? =some ops[k]:=Array.getElem?_eq_getElem hk;exact x.slot k _ d cO fun e=>hw ⟨_,cO,e⟩
  ·rintro i hi ⟨y,hy,yS⟩ dp;exact rf.vh i j y o d dp hy ho yS<|.inl hd
 obtain⟨t1,c1,c2,c3,c4⟩:=x.again j o ho h Rp;obtain⟨v,v1,v2⟩:=G5 Rq c1;obtain⟨u1,Ff⟩:∃u1,eU nt t o.dst v=some u1:=by
  rcases uH v1 with⟨e,_⟩|⟨d,e,hd,_⟩
  ·rw[e];exact⟨t,rfl⟩
  ·rw[e];refine⟨t.put d<|some v,?_⟩;show @Bool.rec (fun _=>Option<|Tr AV) none (some<|t.put d<|some v) (Nat.blt d nt)=_;rw[uN,if_pos hd]
 have pq:=v2 u1 Ff;have Vs:N j<=N (j+1):=x.up j rh;have aY:bL (N j) (N<|j+1) ρ:=by
  intro m h1 h2 gI;have e0:oe m=none:=iZ m (Nat.le_trans (qx x (Nat.zero_le j)<|by omega) h1) (Nat.lt_of_lt_of_le h2<|qx x rh<|Nat.le_refl _) gI;by_cases e:ρ m=oe m
  ·rw[e];exact e0
  ·exfalso;obtain⟨i,hi,Fg,p1,p2⟩:=inv.new m gI e;have dp:i≠j:=by intro q;subst q;exact pS Fg
   rcases Nat.lt_or_ge i j with q|q
   ·have:=qx x (show i+1<=j from q) (by omega);omega
   ·have:=qx x (show j+1<=i from by omega) (by omega);omega
 have aC:At B ρ ⟨h,N j,N j,[],[]⟩ nt t w a:=⟨inv.tr,inv.rel,hg.mono inv.le,gH,⟨Nat.le_refl _,x.top j<|by omega⟩⟩;obtain⟨σ,a',w',g1,g2,g3,g4,g5⟩:=H7 hc hl ho aC (by rw[c2];exact aY) pq b k cs rest;rw[c2] at g1;refine⟨a',w',t1.h,u1,σ,⟨g2.rel,g2.tr,aj.le_trans inv.le g1.le,?_,?_,?_,inv.below.trans g4,g3.trans inv.defers,?_⟩,g5⟩
 ·intro m gI hm;by_cases e:ρ m=oe m
  ·by_cases q:N j<=m/\m<N (j+1)
   ·exact⟨j,rh,(xb (by omega) j).2<|.inl rfl,q.1,q.2⟩
   ·exact absurd ((g1.out m gI q).trans e) hm
  ·obtain⟨i,hi,Fg,p⟩:=inv.new m gI e;exact⟨i,hi,(xb (by omega) i).2<|.inr Fg,p⟩
 ·intro m hm;by_cases q:Wr j m
  ·refine⟨j+1,IN _ fun i hi hw dp=>?_,c3 m q⟩;obtain⟨w1,w2⟩:=x.wrote j m rh q;by_cases e:m<N j
   ·exact IQ i m hi dp hw<|w2 e
   ·obtain⟨y1,y2⟩:=x.wrote i m hi hw;have TA:m<N i:=by
     rcases Nat.lt_or_ge i j with r|r
     ·have:=qx x (show i+1<=j from r) (by omega);omega
     ·have:=qx x (show j+1<=i from by omega) (by omega);omega
    cases gV:loose (Region.before ops) i j with
    |false=>rfl
    |true=>rw[Qr] at gV;exact absurd (y2 TA)<|x.apart j i m rh hi (Ne.symm dp) gV q
  ·obtain⟨c,pM,j9⟩:=inv.heap m hm;exact⟨c,IP _ c q pM,(c4 m q hm).trans j9⟩
 ·intro d;by_cases q:o.dst=some d
  ·refine⟨j+1,IN _ fun i hi hw dp=>?_,?_⟩
   ·obtain⟨y,hy,yS⟩:=hw;exact rf.vh i j y o d dp hy ho yS<|.inr q
   ·rcases uH v1 with⟨e,_⟩|⟨d1,e,hd,e3⟩
    ·rw[e] at q;cases q
    ·rw[q] at e;cases e;rcases uH Ff with⟨e,_⟩|⟨d2,e,BH,e4⟩
     ·rw[e] at q;cases q
     ·rw[q] at e;cases e;rw[e3,e4,Tr.nU _ _ _ _<|Nat.lt_of_lt_of_le hd gH,Tr.nU _ _ _ _<|Nat.lt_of_lt_of_le hd gH,if_pos rfl,if_pos rfl]
  ·obtain⟨c,pM,j9⟩:=inv.vh d;refine⟨c,IP _ c (fun hw=>?_) pM,?_⟩
   ·obtain⟨y,hy,yS⟩:=hw;rw[ho] at hy;cases hy;exact q yS
   ·rw[←j9];rcases uH Ff with⟨_,e⟩|⟨d2,e,BH,e4⟩
    ·rw[e]
    ·rw[e4,Tr.nU _ _ _ _<|Nat.lt_of_lt_of_le BH gH,if_neg (by intro r;subst r;exact q e)]
 ·intro j' o' e iy hd hm hb;rw[xb<|by omega] at hd ⊢;rcases hd with rfl|hd
  ·rw[ho] at iy;cases iy;exact .inr<|Js e hm hb
  ·exact .inr<|inv.closed j' o' e iy hd hm hb
theorem CD(n i:Nat):¬ij (Array.replicate n false) i:=by
 unfold ij;rw[Array.getD_eq_getD_getElem?];by_cases h:i<n
 ·simp[h]
 ·simp[h]
theorem MU(cf:P.follows .mixedOrders=true)(rf:AL ops)(hc:dD P B U7)(hl:∀t a,U5<|U7 t a){id:Nat}{t t1:Tr AV}{s s1:AS}{ρ:aj}{a:Act}{w:World}(aC:At B ρ s nt t w a)(hf:bL s.nx s1.nx ρ)(h:oS P U7 nt ops t s= .ok t1 s1)(b:Frame)(k:List Item)(cs:List Frame):
 vH P B ρ s s1 nt t1 w a (lone (b.atR a<|.code (.region id ops true)::k) cs w) (fun a' w'=>lone (b.atR a' k) cs w'):=by
 obtain⟨⟨t',ms⟩,s',h1,h2⟩:=M.aL (show((iY P U7 nt ops ops.toList 0 t).bind fun x=>aB (lp (Region.before ops) x.2 x.2) <| M.pure x.1) s= .ok t1 s1 from h);obtain⟨h3,h4⟩:=bP h2;obtain⟨rfl,rfl⟩:=aQ h4;obtain⟨f',H,N,T,Rd,Wr,a1,a2,a3,a4,a5,a6,x⟩:=PC hl aC.nt aC.bo h1 h3;have iZ:bL (N 0) (N ops.size) ρ:=by rw[a2,a5];exact hf
 let w1:World:={w with drawn:=w.drawn+1};have Sr:Rel B ρ s.h w1:=aC.rel.xY<|dA.drew w;have Ss:Inv B ops nt H N T Wr ρ w a (Array.replicate ops.size false) a w1 s.h t ρ:=by refine⟨Sr,aC.tr,aj.le_refl ρ,fun m _ hm=>absurd rfl hm,fun m _=>⟨0,⟨Nat.zero_le _,fun i _ _=>⟨fun q=>absurd q<|CD _ _,fun q=>absurd q<|Nat.not_lt_zero _⟩⟩,by rw[a1]⟩,fun d=>⟨0,⟨Nat.zero_le _,fun i _ _=>⟨fun q=>absurd q<|CD _ _,fun q=>absurd q<|Nat.not_lt_zero _⟩⟩,by rw[a3]⟩,(dA.drew w).below aC.rel.size,rfl,fun j o e _ q=>absurd q<|CD _ _⟩
 obtain⟨l',a',w',z1,z2,⟨h',t',tV,inv⟩,z3⟩:=NW (P:=P) rf.JO b k cs (fun listed a2 w2=>∃h' t' tV,Inv B ops nt H N T Wr ρ w a listed a2 w2 h' t' tV)
  (fun listed a2 w2 i o rest q1 ⟨h',t',tV,inv⟩ q3 q4 q5=>by obtain⟨a3,w3,h3,t3,TB,i3,st⟩:=OU rf x hc hl aC.nt aC.g iZ q1 inv q3 q4 q5 b k cs rest;exact⟨a3,w3,⟨h3,t3,TB,i3⟩,st⟩)
  ops.size (w.tape w.drawn<|.order b.fn id) (Array.replicate ops.size false) a w1 (by simp) (OS _) ⟨s.h,t,ρ,Ss⟩
 have all:∀(W:Nat->Prop),Cut ops.size W (ij l') ops.size:=fun W=>⟨Nat.le_refl _,fun i hi _=>⟨fun _=>hi,fun _=>z2 i hi⟩⟩;have vI:∀m,m<top->s1.h.get m=h'.get m:=by intro m hm;obtain⟨c,c1,c2⟩:=inv.heap m hm;rw[c2, ←a4];exact z6 (f:=fun c=>(H c).get m) (fun k hk hw=>x.nq k m hk hw hm) (all _) c1
 have St:∀d,t'.get d=(T ops.size).get d:=by intro d;obtain⟨c,c1,c2⟩:=inv.vh d;rw[c2];refine z6 (f:=fun c=>(T c).get d) (fun k hk hw=>?_) c1<|all _;have cO:ops[k]? =some ops[k]:=Array.getElem?_eq_getElem hk;exact x.slot k _ d cO fun e=>hw ⟨_,cO,e⟩
 refine⟨tV,a',w',⟨inv.le,fun m gI hm=>?_⟩,⟨?_,inv.rel.congr vI,aC.g.mono inv.le,aC.nt,f'⟩,inv.defers,inv.below,?_⟩
 ·by_cases e:tV m=ρ m
  ·exact e
  ·exfalso;obtain⟨i,hi,_,p1,p2⟩:=inv.new m gI e;have q1:=qx x (Nat.zero_le i) (by omega);have q2:=qx x (show i+1<=ops.size from hi)<|Nat.le_refl _;exact hm ⟨by omega,by omega⟩
 ·rw[←a6];exact⟨inv.tr.1,fun i x hx=>inv.tr.2 i x (by rw[St i];exact hx)⟩
 ·refine .head stepR_region_draw ?_;simp only[Region.schedule,cf,Bool.true_or,if_true];exact z3
end
end Go.Rn
namespace Go.Rn
open Go.RowKit
def xw(ρ:aj):Option Nat->Option Nat->Prop
 |none,none=>True
 |some l,some b=>∃N,ρ l=some (b,N)
 |_,_=>False
theorem xw.mono{ρ σ:aj}(h:ρ.le σ):∀{x y:Option Nat},xw ρ x y->xw σ x y
 |none,none,k=>k
 |some _,some _,⟨N,e⟩=>⟨N,h _ _ e⟩
 |none,some _,k=>k
 |some _,none,k=>k
def pv(ρ:aj):List Nat->List Deferred->Prop
 |[],l=>l=[]
 |d::ds,l=>∃b N r,l={target:=.collected b,args:= #[]}::r/\ρ d=some (b,N)/\pv ρ ds r
theorem pv.mono{ρ σ:aj}(h:ρ.le σ):∀{x:List Nat} {y:List Deferred},pv ρ x y->pv σ x y
 |[],_,k=>k
 |_::_,_,⟨b,N,r,e,a,d⟩=>⟨b,N,r,e,h _ _ a,d.mono h⟩
def bN.fr:bN->AF
 | .go fr=>fr
 | .leave fr _=>fr
def Leaves(j:Option Code)(todo:List Item):Prop:=
 match j with
 |none=>todo=[]
 |some .ret=>∃k,todo= .code .ret::k
 |some (.exit id)=>∃k,todo= .code (.exit id)::k/\exitTo id k=none
 |some (.goto l)=>∃k,todo= .code (.goto l)::k/\gotoIn l k=none
 |_=>False
def bN.ok:bN->Prop
 | .go _=>True
 | .leave fr j=>Leaves j fr.todo
theorem Leaves.code{j:Option Code}{todo:List Item}(h:Leaves j todo):∀c,j=some c->dN c:=by intro c e;subst e;cases c<;>first|trivial|cases h
structure Fr (ρ:aj) (af:AF) (b:Frame) (a:Act):Prop where
 fn:b.fn=af.fn
 kind:b.kind= .normal
 round:xw ρ af.round b.roundOf
 defs:pv ρ af.defers a.defers
 ok:fx af.todo
def ja(P:Program)(B:aH)(ρ:aj)(s s1:AS)(w:World)(af:AF)(b:Frame)(cs:List Frame)(m:Machine)(x:bN):Prop:=∃σ a' w',Ext s.nx s1.nx ρ σ/\At B σ s1 af.nt x.fr.tmps w' a'/\pv σ x.fr.defers a'.defers/\bp B w w'/\(x.fr.fn=af.fn/\x.fr.nt=af.nt/\x.fr.round=af.round)/\fx x.fr.todo/\x.ok/\Steps P m (lone (b.atR a' x.fr.todo) cs w')
section
variable {P:Program} {B:aH} {ρ:aj} {w:World} {s s1:AS} {U7:aJ} {b:Frame} {a:Act} {cs:List Frame}
theorem uk{l:Nat}{r:Loop}(hb:w.heap[l]? =some (.loop r)):(Instr.getLoop l).run P w= .ok r w:=by simp[Instr.getLoop,getObj,Sem.run,hb]
theorem B0{l:Nat}{r:Loop}{o:Obj}(hb:w.heap[l]? =some (.loop r)):(setObj l o).run P w= .ok () {w with heap:=w.heap.setIfInBounds l o}:=by simp[setObj,Sem.run,hb]
theorem uu{l:Nat}{o:U}(h:getLoop l s= .ok o s1):a9 l s= .ok o s1/\∃st dP fn t nt ps aa bb d,o= .loop st dP fn t nt ps aa bb d:=by
 unfold getLoop at h;obtain⟨o',s2,h1,h2⟩:=M.aL h;split at h2
 ·obtain⟨rfl,rfl⟩:=aQ h2;exact⟨h1,_,_,_,_,_,_,_,_,_,rfl⟩
 ·cases h2
theorem C4{st BI:LoopState}{dP xI:Option Code}{fn nt d l:Nat}{t:Tr AV}{ps:List Tmp}{aa bb:Code}{u:Unit}{bl N:Nat}{s2:AS}(fi:aS s)(r:Rel B ρ s.h w)(hg:a9 l s= .ok (.loop st dP fn t nt ps aa bb d) s2)(hl:ρ l=some (bl,N))(cO:∀c,xI=some c->dN c)(h:ba l (some<|.loop BI xI fn t nt ps aa bb d) s2= .ok u s1):
 s1.nx=s.nx/\∃q:Loop,w.heap[bl]? =some (.loop q)/\q.state=st/\q.pending=dP/\q.fn=fn/\TR ρ nt t q.tmps/\q.params=ps.toArray/\q.assign=aa/\q.body=bb/\nt<=top/\xp dP aa bb/\Rel B ρ s1.h {w with heap:=w.heap.setIfInBounds bl<|.loop {q with state:=BI,pending:=xI}}/\bp B w {w with heap:=w.heap.setIfInBounds bl<|.loop {q with state:=BI,pending:=xI}}:=by
 obtain⟨hx,gl,hh,bq⟩:=eS hg;have ht:l<top:=Nat.lt_of_lt_of_le hx fi.nx;obtain⟨o',hb,hO,hB⟩:=r.block ht gl hl;obtain⟨ta,db,M,rfl,pT,gH,hd,cx⟩:=hO;obtain⟨_,_,_,e1,e2⟩:=hY h;obtain⟨g3,g4⟩:=rG (o':=.loop {state:=BI,pending:=xI,fn:=fn,tmps:=ta,params:=ps.toArray,assign:=aa,body:=bb,defers:=db}) hb;refine⟨by rw[e2,bq],_,hb,rfl,rfl,rfl,pT,rfl,rfl,rfl,gH,cx,?_,g3.below<|hB rfl⟩;rw[e1,hh];exact r.put ht gl rfl rfl hl rfl g3 g4 ⟨ta,db,M,rfl,pT,gH,hd,cO,cx.assign,cx.body⟩
theorem Gr{l bl N:Nat}{p:Option Code}(fi:aS s)(r:Rel B ρ s.h w)(hl:ρ l=some (bl,N))(h:lU l s= .ok p s1):
 s1.nx=s.nx/\(∀c,p=some c->dN c)/\∃w',(Instr.endLoop bl).run P w= .ok p w'/\Rel B ρ s1.h w'/\bp B w w':=by
 unfold lU at h;obtain⟨o,s2,h1,h2⟩:=M.aL h;obtain⟨h3,st,dP,fn,t,nt,ps,aa,bb,d,rfl⟩:=uu h1;obtain⟨h4,h5⟩:=bP h2;obtain⟨u,s3,h6,h7⟩:=M.aL h5;obtain⟨rfl,rfl⟩:=aQ h7;have gl:=(eS h3);have cO:∀c,p=some c->dN c:=by obtain⟨o',hb,hO,_⟩:=r.block (Nat.lt_of_lt_of_le gl.1 fi.nx) gl.2.1 hl;obtain⟨_,_,_,_,_,_,_,cx⟩:=hO;exact cx.dP
 obtain⟨e1,q,e2,e3,e4,_,_,_,_,_,_,_,e5,e6⟩:=C4 fi r h3 hl cO h6;refine⟨e1,cO,_,?_,e5,e6⟩;have bS:(q.state == LoopState.busy)=false:=by rw[e3];cases st<;>first|rfl|cases h4
 simp only[Instr.endLoop,Sem.run_bind,uk e2,Result.andThen_ok,bS,Bool.false_eq_true,if_false,B0 e2,Sem.run_pure,e4]
theorem F6{g:Operand}{ps:Array Tmp}{assign body:Code}{k:List Item}{l:Nat}{mark:List Deferred}{Bb:World}{R:Value->World->Prop}(he:(Instr.enterLoop b.fn a.tmps ps assign body b.roundOf).run P w= .ok (l,mark) Bb)(h:fZ P ((do let d ←Deferred.ofValue (a.eval g) #[.func (.yield l) #[] #[]];invoke d.target d.args:Sem Next).run P Bb) R):
 ∃v w',R v w'/\Steps P (lone (b.atR a<|.code (.rangeFunc g ps assign body)::k) cs w) (lone (b.atR {a with defers:=mark++a.defers}<|.endRangeFunc l::k) cs w'):=by
 have BJ:=Frame.eval_atR b {a with defers:=mark++a.defers}<|.inRangeFunc l::k;simp only[Frame.atR] at BJ;have jU:(do let d ←resolve ({tmps:=a.tmps,defers:=mark++a.defers}:Act).eval {callee:=.value g,args:= #[.const<|.func (.yield l) #[] #[]],argTypes:= #[]} 0;invoke d.target d.args:Sem Next)=
  (do let d ←Deferred.ofValue (a.eval g) #[.func (.yield l) #[] #[]];invoke d.target d.args:Sem Next):=by
  have e1:({tmps:=a.tmps,defers:=mark++a.defers}:Act).eval g=a.eval g:=by cases g<;>rfl
  have e2:(#[Operand.const<|Value.func (Fn.yield l) #[] #[]]:Array Operand).map ({tmps:=a.tmps,defers:=mark++a.defers}:Act).eval= #[Value.func (Fn.yield l) #[] #[]]:=by simp[Act.eval]
  simp only[resolve,e1,e2]
 generalize hr:(do let d ←Deferred.ofValue (a.eval g) #[.func (.yield l) #[] #[]];invoke d.target d.args:Sem Next).run P Bb=res at h;rw[←jU] at hr;have AT:stepG P true {frame:=b.atR a<|.code (.rangeFunc g ps assign body)::k,callers:=cs,status:=.running,dying:=none} w=
  GStep.after (seen P b.fn ((Instr.enterLoop b.fn a.tmps ps assign body b.roundOf).runT P w #[]).2) (stepG.apply P true (b.atR {a with defers:=mark++a.defers}<|.inRangeFunc l::k) cs none (do let d ←resolve ({tmps:=a.tmps,defers:=mark++a.defers}:Act).eval {callee:=.value g,args:= #[.const<|.func (.yield l) #[] #[]],argTypes:= #[]} 0;invoke d.target d.args) Bb):=by
  simp only[stepG,stepG.exec,Frame.atR,Sem.runT_eq,he,BJ]
 unfold fZ at h;split at h
 ·rename_i v w';refine⟨v,w',h,.one<|step_lone_go ?_⟩;rw[AT,GStep.bare_after, ←finish_atR_inRangeFunc l v];simp[stepG.apply,hr]
 ·rename_i w';refine⟨undef,w',h,.one<|step_lone_go ?_⟩;rw[AT,GStep.bare_after, ←finish_atR_inRangeFunc l undef];simp[stepG.apply,hr]
 ·rename_i f args w';obtain⟨e,iB,fr,⟨v,rfl,hR⟩,sN,cI,DB⟩:=h<|b.atR {a with defers:=mark++a.defers} (.inRangeFunc l::k)::cs;have sO:step P (lone (b.atR a<|.code (.rangeFunc g ps assign body)::k) cs w)= .next (lone (Frame.enter P f args .normal) (b.atR {a with defers:=mark++a.defers} (.inRangeFunc l::k)::cs) w'):=step_lone_go (by rw[AT,GStep.bare_after];simp[stepG.apply,hr,Frame.atR])
  refine⟨v,iB,hR,.head sO<|Steps.trans sN<|.one ?_⟩;rw[←finish_atR_inRangeFunc l v];exact step_leave_returned DB
 ·rename_i l' f tmps PD Rr w';obtain⟨v,iB,hR,sN⟩:=h (b.atR {a with defers:=mark++a.defers}<|.inRangeFunc l::k) cs;have sO:step P (lone (b.atR a<|.code (.rangeFunc g ps assign body)::k) cs w)= .next (lone (Frame.round l' f tmps PD Rr .normal) (b.atR {a with defers:=mark++a.defers} (.inRangeFunc l::k)::cs) w'):=step_lone_go (by rw[AT,GStep.bare_after];simp[stepG.apply,hr,Frame.atR])
  refine⟨v,iB,hR,.head sO ?_⟩;rw[←finish_atR_inRangeFunc l v];exact sN
 ·cases h
end
end Go.Rn
namespace Go.Rn
open Go.RowKit
section
variable {P:Program} {B:aH} {ρ:aj} {w:World} {s s1:AS} {U7:aJ} {b:Frame} {a:Act} {cs:List Frame}
theorem uy{af:AF}{x:bN}(aY:Fr ρ af b a)(aC:At B ρ s af.nt af.tmps w a)(h1:x.fr.tmps=af.tmps)(h2:x.fr.defers=af.defers)(h3:x.fr.fn=af.fn/\x.fr.nt=af.nt/\x.fr.round=af.round)(h4:fx x.fr.todo)(h5:x.ok)(h6:Steps P (lone (b.atR a af.todo) cs w)<|lone (b.atR a x.fr.todo) cs w):ja P B ρ s s w af b cs (lone (b.atR a af.todo) cs w) x:=⟨ρ,a,w,Ext.refl _ _ _,by rw[h1];exact aC,by rw[h2];exact aY.defs,bp.refl _ _,h3,h4,h5,h6⟩
theorem HA{af fr:AF}(aY:Fr ρ af b a){k:List Item}{t:Tr AV}(hx:fr={af with tmps:=t,todo:=k})(hk:fx k)(h:vH P B ρ s s1 af.nt t w a (lone (b.atR a af.todo) cs w) fun a' w'=>lone (b.atR a' k) cs w'):ja P B ρ s s1 w af b cs (lone (b.atR a af.todo) cs w)<|.go fr:=by subst hx;obtain⟨σ,a',w',e1,e2,e3,e4,e5⟩:=h;exact⟨σ,a',w',e1,e2,by rw[e3];exact aY.defs.mono e1.le,e4,⟨rfl,rfl,rfl⟩,hk,trivial,e5⟩
theorem PE{fn nt:Nat}{t:Tr AV}{ps:Array Tmp}{assign body:Code}(aC:At B ρ s nt t w a)(h1:ρ s.nx=none)(h2:ρ (s.nx+1)=none)(l1:s.nx<top)(l2:s.nx+1<top)(cx:xp none assign body):
 ∃σ,Ext s.nx (s.nx+2) ρ σ/\σ s.nx=some (w.heap.size,0)/\σ (s.nx+1)=some (w.heap.size+1,0)/\
  (Instr.enterLoop fn a.tmps ps assign body none).run P w= .ok (w.heap.size+1,[{target:=.collected w.heap.size,args:= #[]}]) {w with heap:=(w.heap.push<|.deferred<|some []).push<|.loop {state:=.ready,pending:=none,fn,tmps:=a.tmps,params:=ps,assign,body,defers:=w.heap.size}}/\
  Rel B σ ((s.h.put s.nx<|some .defs).put (s.nx+1)<|some<|.loop .ready none fn t nt ps.toList assign body s.nx) {w with heap:=(w.heap.push<|.deferred<|some []).push<|.loop {state:=.ready,pending:=none,fn,tmps:=a.tmps,params:=ps,assign,body,defers:=w.heap.size}}/\
  bp B w {w with heap:=(w.heap.push<|.deferred<|some []).push<|.loop {state:=.ready,pending:=none,fn,tmps:=a.tmps,params:=ps,assign,body,defers:=w.heap.size}}:=by
 have r1:=aC.rel.new (n:=s.nx) (o:=.defs) (o':=.deferred<|some []) (N:=0) l1 h1 rfl rfl;have jZ:eg ρ s.nx (w.heap.size,0) (s.nx+1)=none:=by rw[gN ρ _<|by omega];exact h2
 have vJ:ρ.le<|eg ρ s.nx (w.heap.size,0):=lZ h1;have yb:(eg ρ s.nx (w.heap.size,0)).le<|eg (eg ρ s.nx (w.heap.size,0)) (s.nx+1) (w.heap.size+1,0):=lZ jZ;have gU:({w with heap:=w.heap.push<|.deferred<|some []}:World).heap.size=w.heap.size+1:=by simp
 have r2:=r1.new (n:=s.nx+1) (o:=.loop .ready none fn t nt ps.toList assign body s.nx) (o':=.loop {state:=.ready,pending:=none,fn,tmps:=a.tmps,params:=ps,assign,body,defers:=w.heap.size}) (N:=0) l2 jZ rfl (by rw[gU];exact⟨a.tmps,w.heap.size,0,by simp,(aC.tr.mono vJ).mono yb,aC.nt,yb _ _<|fH _ _ _,cx⟩);rw[gU] at r2;refine⟨_,⟨aj.le_trans vJ yb,fun k _ hk=>?_⟩,yb _ _<|fH _ _ _,fH _ _ _,?_,r2,?_⟩
 ·rw[gN _ _ (by omega),gN _ _<|by omega]
 ·simp only[Instr.enterLoop,Sem.run_bind,newObj,Sem.run,Result.andThen_ok,Sem.run_pure];simp
 ·exact((dA.alloc w _).trans<|dA.alloc _ _).below aC.rel.size
theorem PF{fn nt l0 bl N:Nat}{t:Tr AV}{ps:Array Tmp}{assign body:Code}{st:LoopState}{dP:Option Code}{f0 v9 d0:Nat}{t0:Tr AV}{wa:List Tmp}{a0 b0:Code}{s2:AS}(aC:At B ρ s nt t w a)(h1:ρ s.nx=none)(l1:s.nx<top)(cx:xp none assign body)(hg:a9 l0 s= .ok (.loop st dP f0 t0 v9 wa a0 b0 d0) s2)(hl:ρ l0=some (bl,N)):
 ∃σ w',Ext s.nx (s.nx+1) ρ σ/\(∃bb M,σ s.nx=some (bb,M)/\(Instr.enterLoop fn a.tmps ps assign body<|some bl).run P w= .ok (bb,[]) w')/\Rel B σ (s.h.put s.nx<|some<|.loop .ready none fn t nt ps.toList assign body d0) w'/\bp B w w':=by
 obtain⟨hx,gl,hh,bq⟩:=eS hg;have ht:l0<top:=Nat.lt_of_lt_of_le hx aC.bo.nx;obtain⟨o',hb,hO,hB⟩:=aC.rel.block ht gl hl;obtain⟨ta,db,M,rfl,pT,gH,hd,_⟩:=hO;have vJ:ρ.le<|eg ρ s.nx (w.heap.size,0):=lZ h1;have r1:=aC.rel.new (n:=s.nx) (o:=.loop .ready none fn t nt ps.toList assign body d0) (o':=.loop {state:=.ready,pending:=none,fn,tmps:=a.tmps,params:=ps,assign,body,defers:=db}) (N:=0) l1 h1 rfl ⟨a.tmps,db,M,by simp,aC.tr.mono vJ,aC.nt,vJ _ _ hd,cx⟩;refine⟨_,_,Ext.bB h1,⟨w.heap.size,0,fH _ _ _,?_⟩,r1,(dA.alloc w _).below aC.rel.size⟩;simp only[Instr.enterLoop,Sem.run_bind,uk hb,Result.andThen_ok,Sem.run_pure,newObj,Sem.run]
theorem F7{p:Option Code}{k:List Item}(hp:∀c,p=some c->dN c)(hk:fx k):fx<|andThen p k:=by
 cases p with
 |none=>exact hk
 |some c=>exact .cons (hp c rfl) hk
theorem G7(p:Option Code)(k:List Item):(p.map Item.code).toList++k=andThen p k:=by cases p<;>rfl
theorem NY{af:AF}{f:Operand}{ps:Array Tmp}{assign body:Code}{k:List Item}{x:bN}(hc:dD P B U7)(hl:∀t a,U5<|U7 t a)(aY:Fr ρ af b a)(aC:At B ρ s af.nt af.tmps w a)(hf:bL s.nx s1.nx ρ)(me:af.todo= .code (.rangeFunc f ps assign body)::k)(h:AA f ps.toList assign body U7 af.fn af.tmps af.nt af.defers af.round k s= .ok x s1):ja P B ρ s s1 w af b cs (lone (b.atR a af.todo) cs w) x:=by
 have vt:dN assign/\dN body:=by have:=aY.ok;rw[me] at this;exact this.head
 have cx:xp none assign body:=⟨(fun c e=>by cases e),vt.1,vt.2⟩;have hk:fx k:=by have:=aY.ok;rw[me] at this;exact this.tail
 unfold AA at h;cases hr:af.round with
 |none=>
  rw[hr] at h;have jo:=aY.round;rw[hr] at jo;have yT:b.roundOf=none:=by
   cases e:b.roundOf with
   |none=>rfl
   |some _=>rw[e] at jo;cases jo
  obtain⟨df,s2,h1,h⟩:=M.aL h;obtain⟨l,s3,h2,h⟩:=M.aL h;obtain⟨g,h3,h⟩:=bd h;obtain⟨y,s4,h4,h⟩:=M.aL h;obtain⟨p,s5,h5,h⟩:=M.aL h;obtain⟨rfl,rfl⟩:=aQ h;obtain⟨t1,rfl,rfl⟩:=kX h1;obtain⟨t2,rfl,rfl⟩:=kX h2;have fE:aS {s with h:=(s.h.put s.nx<|some .defs).put (s.nx+1)<|some<|.loop .ready none af.fn af.tmps af.nt ps.toList assign body s.nx,nx:=s.nx+1+1}:=⟨by have:=aC.bo.mark;show s.mark<=s.nx+1+1;omega,t2⟩;have yU:=(U5.jt hl _ _).le fE h4;have gW:=(U5.jt hl _ _).bo fE h4;have Fh:=(U5.lU _).le gW h5;have Ex:s.nx+2<=s4.nx:=yU;obtain⟨σ,e1,e2,e3,e4,e5,e6⟩:=PE (P:=P) (fn:=af.fn) (ps:=ps) aC (hf _ (Nat.le_refl _) (by omega)<|by omega) (hf _ (by omega) (by omega)<|by omega) t1 t2 cx;have mH:VR σ g<|a.eval f:=(xh aC.tr aC.g h3).mono e1.le;have iZ:bL (s.nx+2) s4.nx σ:=(hf.sub (Nat.le_refl _) Fh).next (by omega) e1
  have D9:=Hw (P:=P) hc (aC.g.mono e1.le) fE e5 iZ mH (args:=[.yield<|s.nx+1]) (vs:= #[.func (.yield<|w.heap.size+1) #[] #[]]) (by simp only[av,VR];exact⟨_,_,rfl,⟨_,_,e3,rfl⟩,rfl⟩) h4;have yc:=(show(Instr.enterLoop b.fn a.tmps ps assign body b.roundOf).run P w=(Instr.enterLoop af.fn a.tmps ps assign body none).run P w by rw[aY.fn,yT]).trans e4;obtain⟨v,w',⟨τ,g1,g2,g3,g4⟩,st⟩:=F6 (cs:=cs) (k:=k) yc D9;obtain⟨q1,q2,w5,q3,q4,q5⟩:=Gr (P:=P) gW g3 (g1.le _ _ e3) h5;have ext:Ext s.nx s4.nx ρ τ:=e1.trans (by omega) Ex g1;refine⟨τ,{a with defers:=[{target:=.collected w.heap.size,args:= #[]}]++a.defers},w5,by rw[q1];exact ext,⟨aC.tr.mono ext.le,q4,aC.g.mono ext.le,aC.nt,(U5.lU _).bo gW h5⟩,?_,(e6.trans g4).trans q5,⟨rfl,rfl,hr.symm⟩,F7 q2 hk,trivial,?_⟩
  ·exact⟨w.heap.size,0,a.defers,rfl,g1.le _ _ e2,aY.defs.mono ext.le⟩
  ·rw[me];refine Steps.trans st<|.one ?_;rw[stepR_endRangeFunc q3,G7];rfl
 |some l0=>
  rw[hr] at h;have jo:=aY.round;rw[hr] at jo;obtain⟨bl,yT,N0,Fi⟩:∃bl,b.roundOf=some bl/\∃N,ρ l0=some (bl,N):=by
   cases e:b.roundOf with
   |none=>rw[e] at jo;cases jo
   |some bl=>rw[e] at jo;exact⟨bl,rfl,jo⟩
  obtain⟨ob,s2,h1,h⟩:=M.aL h;obtain⟨pL,Vt,Vg,f0,t0,v9,wa,a0,b0,d0,rfl⟩:=uu h1;obtain⟨l,s3,h2,h⟩:=M.aL h;obtain⟨g,h3,h⟩:=bd h;obtain⟨y,s4,h4,h⟩:=M.aL h;obtain⟨p,s5,h5,h⟩:=M.aL h;obtain⟨rfl,rfl⟩:=aQ h;obtain⟨hx,gl,hh,bq⟩:=eS pL;have bU:aS s2:=(U5.a9 _).bo aC.bo pL;obtain⟨t2,rfl,rfl⟩:=kX h2;have fE:aS {s2 with h:=s2.h.put s2.nx<|some<|.loop .ready none af.fn af.tmps af.nt ps.toList assign body d0,nx:=s2.nx+1}:=⟨by have:=bU.mark;show s2.mark<=s2.nx+1;omega,t2⟩;have yU:=(U5.jt hl _ _).le fE h4;have gW:=(U5.jt hl _ _).bo fE h4;have Fh:=(U5.lU _).le gW h5;have Ex:s2.nx+1<=s4.nx:=yU;obtain⟨σ,w2,e1,⟨bb,M2,e3,e4⟩,e5,e6⟩:=PF (P:=P) (fn:=af.fn) (ps:=ps) aC (hf _ (Nat.le_refl _) (by omega)<|by omega) (by rw[←bq];omega) cx pL Fi;rw[←hh, ←bq] at e5;rw[←bq] at e1 e3;have mH:VR σ g<|a.eval f:=(xh aC.tr aC.g h3).mono e1.le;have iZ:bL (s2.nx+1) s4.nx σ:=(show bL s2.nx s4.nx ρ by rw[bq];exact hf.sub (Nat.le_refl _) Fh).next (by omega) e1
  have D9:=Hw (P:=P) hc (aC.g.mono e1.le) fE e5 iZ mH (args:=[.yield s2.nx]) (vs:= #[.func (.yield bb) #[] #[]]) (by simp only[av,VR];exact⟨_,_,rfl,⟨_,_,e3,rfl⟩,rfl⟩) h4;have yc:=(show(Instr.enterLoop b.fn a.tmps ps assign body b.roundOf).run P w=(Instr.enterLoop af.fn a.tmps ps assign body<|some bl).run P w by rw[aY.fn,yT]).trans e4;obtain⟨v,w',⟨τ,g1,g2,g3,g4⟩,st⟩:=F6 (cs:=cs) (k:=k) yc D9;obtain⟨q1,q2,w5,q3,q4,q5⟩:=Gr (P:=P) gW g3 (g1.le _ _ e3) h5;have ext:Ext s.nx s4.nx ρ τ:=by rw[←bq];exact e1.trans (by omega) Ex g1
  refine⟨τ,{a with defers:=[]++a.defers},w5,by rw[q1];exact ext,⟨aC.tr.mono ext.le,q4,aC.g.mono ext.le,aC.nt,(U5.lU _).bo gW h5⟩,?_,(e6.trans g4).trans q5,⟨rfl,rfl,hr.symm⟩,F7 q2 hk,trivial,?_⟩
  ·exact aY.defs.mono ext.le
  ·rw[me];refine Steps.trans st<|.one ?_;rw[stepR_endRangeFunc q3,G7];rfl
end
end Go.Rn
namespace Go.Rn
open Go.RowKit
theorem Ml{P:Program}{b:Frame}{a:Act}{k:List Item}{cs:List Frame}{w:World}{c:Code}:step P (lone (b.atR a<|.inScope c::k) cs w)= .next (lone (b.atR a k) cs w):=step_lone_go (by simp[stepG,stepG.exec,Frame.atR])
theorem MV{P:Program}{b:Frame}{a:Act}{k:List Item}{cs:List Frame}{w:World}{c:Code}:step P (lone (b.atR a<|.code (.scope c)::k) cs w)= .next (lone (b.atR a<|.code c:: .inScope c::k) cs w):=step_lone_go (by simp[stepG,stepG.exec,Frame.atR])
section
variable {P:Program} {B:aH} {ρ:aj} {w:World} {s s1:AS} {U7:aJ} {b:Frame} {a:Act} {cs:List Frame}
theorem NZ{l bl N:Nat}{dP:Option Code}{f0 v9 d0:Nat}{t0:Tr AV}{wa:List Tmp}{a0 b0:Code}{u:Unit}{s2:AS}(fi:aS s)(r:Rel B ρ s.h w)(hl:ρ l=some (bl,N))(hg:a9 l s= .ok (.loop .ready dP f0 t0 v9 wa a0 b0 d0) s2)(h:ba l (some<|.loop .busy dP f0 t0 v9 wa a0 b0 d0) s2= .ok u s1):
 s1.nx=s.nx/\∃w',(Instr.beginRound bl).run P w= .ok () w'/\Rel B ρ s1.h w'/\bp B w w':=by
 have gl:=eS hg;have cO:∀c,dP=some c->dN c:=by obtain⟨o',hb,hO,_⟩:=r.block (Nat.lt_of_lt_of_le gl.1 fi.nx) gl.2.1 hl;obtain⟨_,_,_,_,_,_,_,cx⟩:=hO;exact cx.dP
 obtain⟨e1,q,e2,e3,e4,_,_,_,_,_,_,_,e5,e6⟩:=C4 fi r hg hl cO h;refine⟨e1,_,?_,e5,e6⟩;subst e4;simp only[Instr.beginRound,Sem.run_bind,uk e2,Result.andThen_ok,B0 e2,e3,Sem.run_pure]
theorem wT(cf:P.follows .mixedOrders=true)(hc:dD P B U7)(hl:∀t a,U5<|U7 t a){af:AF}{x:bN}(aY:Fr ρ af b a)(aC:At B ρ s af.nt af.tmps w a)(hf:bL s.nx s1.nx ρ)(h:gk P U7 af s= .ok x s1):ja P B ρ s s1 w af b cs (lone (b.atR a af.todo) cs w) x:=by
 obtain⟨fn,t,nt,todo,d,r⟩:=af;cases todo with
 |nil=>obtain⟨rfl,rfl⟩:=aQ (show M.pure (.leave ⟨fn,t,nt,[],d,r⟩ none) s= .ok x s1 from h);exact uy aY aC rfl rfl ⟨rfl,rfl,rfl⟩ .nil rfl<|Steps.refl _ _
 |cons it k=>
  have hk:fx k:=aY.ok.tail;have mI:Ay it:=aY.ok.head;have h':(AP P it).val U7 fn t nt d r k s= .ok x s1:=h;have calm:∀(l:List Item),fx l->M.pure (.go ⟨fn,t,nt,l,d,r⟩) s= .ok x s1->step P (lone (b.atR a<|it::k) cs w)= .next (lone (b.atR a l) cs w)->ja P B ρ s s1 w ⟨fn,t,nt,it::k,d,r⟩ b cs (lone (b.atR a<|it::k) cs w) x:=by intro l jH hp hs;obtain⟨rfl,rfl⟩:=aQ hp;exact uy aY aC rfl rfl ⟨rfl,rfl,rfl⟩ jH trivial<|.one hs
  cases it with
  |code c=>
   cases c with
   |skip=>exact calm k hk h' stepR_skip
   |label l=>exact calm k hk h' stepR_label
   |seq p q=>exact calm (.code p:: .code q::k) (.cons mI.1<|.cons mI.2 hk) h' stepR_seq
   |cond c p q=>
    obtain⟨v,h1,h2⟩:=bd (show(aG (ar t c) fun v=>aG (xr v) fun v=>M.pure<|.go ⟨fn,t,nt,.code (@Bool.rec (fun _=>Code) q p v)::k,d,r⟩) s= .ok x s1 from h');obtain⟨y,h3,h4⟩:=bd h2;have hv:=(xh aC.tr aC.g h1).H5 h3;cases y with
    |true=>exact calm (.code p::k) (.cons mI.1 hk) h4<|stepR_cond hv
    |false=>exact calm (.code q::k) (.cons mI.2 hk) h4<|stepR_cond hv
   |block id c=>exact calm (.code c:: .inBlock id::k) (.cons mI<|.cons trivial hk) h' stepR_block
   |loop c=>exact calm (.code c:: .inLoop c::k) (.cons mI<|.cons mI hk) h' stepR_loop
   |scope c=>exact calm (.code c:: .inScope c::k) (.cons mI<|.cons mI hk) h' MV
   |exit id=>
    have h2:AN id U7 fn t nt d r k s= .ok x s1:=h';unfold AN at h2;cases e:exitTo id k with
    |some k'=>rw[e] at h2;exact calm k' (Cw e hk) h2<|stepR_exit e
    |none=>rw[e] at h2;obtain⟨rfl,rfl⟩:=aQ h2;exact uy aY aC rfl rfl ⟨rfl,rfl,rfl⟩ aY.ok ⟨k,rfl,e⟩<|Steps.refl _ _
   |goto l=>
    have h2:AO l U7 fn t nt d r k s= .ok x s1:=h';unfold AO at h2;cases e:gotoIn l k with
    |some k'=>rw[e] at h2;exact calm k' (Cx e hk) h2<|stepR_goto e
    |none=>rw[e] at h2;obtain⟨rfl,rfl⟩:=aQ h2;exact uy aY aC rfl rfl ⟨rfl,rfl,rfl⟩ aY.ok ⟨k,rfl,e⟩<|Steps.refl _ _
   |ret=>obtain⟨rfl,rfl⟩:=aQ (show M.pure (.leave ⟨fn,t,nt,.code .ret::k,d,r⟩<|some .ret) s= .ok x s1 from h');exact uy aY aC rfl rfl ⟨rfl,rfl,rfl⟩ aY.ok ⟨k,rfl⟩<|Steps.refl _ _
   |region id ops draw=>
    cases draw with
    |false=>obtain⟨t1,s2,h1,h2⟩:=M.aL (show((fY P U7 nt ops ops.toList t).bind fun t=>M.pure<|.go ⟨fn,t,nt,k,d,r⟩) s= .ok x s1 from h');obtain⟨rfl,rfl⟩:=aQ h2;exact HA aY rfl hk<|Nt hc hl aC hf h1 b k cs
    |true=>obtain⟨t1,s2,h1,h2⟩:=M.aL (show((oS P U7 nt ops t).bind fun t=>M.pure<|.go ⟨fn,t,nt,k,d,r⟩) s= .ok x s1 from h');obtain⟨rfl,rfl⟩:=aQ h2;exact HA aY rfl hk<|MU cf (mI rfl) hc hl aC hf h1 b k cs
   |rangeFunc f ps p q=>exact NY hc hl aY aC hf rfl h'
   |refuse Vu=>cases h'
  |inBlock id=>exact calm k hk h' stepR_inBlock
  |inScope c=>exact calm k hk h' Ml
  |inLoop c=>exact calm (.code c:: .inLoop c::k) (.cons mI<|.cons mI hk) h' stepR_inLoop
  |beginRound=>
   have h2:AB U7 fn t nt d r k s= .ok x s1:=h';unfold AB at h2;cases r with
   |none=>cases h2
   |some l=>
    obtain⟨bl,yT,N0,Fi⟩:∃bl,b.roundOf=some bl/\∃N,ρ l=some (bl,N):=by
     have jo:=aY.round;cases e:b.roundOf with
     |none=>rw[e] at jo;cases jo
     |some bl=>rw[e] at jo;exact⟨bl,rfl,jo⟩
    obtain⟨o,s2,h3,h4⟩:=M.aL h2;obtain⟨h5,st,dP,f0,t0,v9,wa,a0,b0,d0,rfl⟩:=uu h3;cases st<;>first|(cases h4;done)|skip
    obtain⟨u,s3,h6,h7⟩:=M.aL h4;obtain⟨rfl,rfl⟩:=aQ h7;obtain⟨e1,w',e2,e3,e4⟩:=NZ (P:=P) aC.bo aC.rel Fi h5 h6;have bU:aS s1:=(U5.ba _ _).bo ((U5.a9 _).bo aC.bo h5) h6;exact⟨ρ,a,w',by rw[e1];exact Ext.refl _ _ _,⟨aC.tr,e3,aC.g,aC.nt,bU⟩,aY.defs,e4,⟨rfl,rfl,rfl⟩,hk,trivial,.one<|stepR_beginRound yT e2⟩
  |_=>cases h'
theorem ja.Ea{af:AF}{fr:AF}{x:bN}{s2:AS}{m:Machine}(aY:Fr ρ af b a)(h:ja P B ρ s s2 w af b cs m<|.go fr)(gu:s.nx<=s2.nx)(kR:s2.nx<=s1.nx)(k:∀(σ:aj) (a':Act) (w':World),Ext s.nx s2.nx ρ σ->Fr σ fr b a'->At B σ s2 fr.nt fr.tmps w' a'->ja P B σ s2 s1 w' fr b cs (lone (b.atR a' fr.todo) cs w') x):ja P B ρ s s1 w af b cs m x:=by obtain⟨σ,a',w',e1,e2,e3,e4,⟨e5,e6,e7⟩,e8,_,e9⟩:=h;have eM:fr.nt=af.nt:=e6;obtain⟨τ,tS,iB,f1,f2,f3,f4,⟨f5,f6,f7⟩,f8,f9,f10⟩:=k σ a' w' e1 ⟨aY.fn.trans e5.symm,aY.kind,by have:=aY.round.mono e1.le;rw[←e7] at this;exact this,e3,e8⟩ (by rw[eM];exact e2);exact⟨τ,tS,iB,e1.trans gu kR f1,by rw[eM] at f2;exact f2,f3,e4.trans f4,⟨f5.trans e5,f6.trans e6,f7.trans e7⟩,f8,f9,Steps.trans e9 f10⟩
theorem wU(cf:P.follows .mixedOrders=true)(hc:dD P B U7)(hl:∀t a,U5<|U7 t a):∀(n:Nat) {ρ:aj} {w:World} {s s1:AS} {a:Act} {af:AF} {x:bN},Fr ρ af b a->At B ρ s af.nt af.tmps w a->bL s.nx s1.nx ρ->
 ju P U7 n af s= .ok x s1->ja P B ρ s s1 w af b cs (lone (b.atR a af.todo) cs w) x
 |0,ρ,w,s,s1,a,af,x,aY,aC,hf,h=>wT cf hc hl aY aC hf h
 |n+1,ρ,w,s,s1,a,af,x,aY,aC,hf,h=>by
  obtain⟨y,s2,h1,h2⟩:=M.aL (show((ju P U7 n af).bind fun x=> @bN.rec (fun _=>M bN) (ju P U7 n) (fun fr j=>M.pure<|.leave fr j) x) s= .ok x s1 from h);have gu:=(U5.ju P hl n af).le aC.bo h1;have bU:=(U5.ju P hl n af).bo aC.bo h1;cases y with
  |go fr=>have kP:ju P U7 n fr s2= .ok x s1:=h2;have kR:=(U5.ju P hl n fr).le bU kP;have w1:=wU cf hc hl n aY aC (hf.sub (Nat.le_refl _) kR) h1;exact w1.Ea aY gu kR fun σ a' w' e1 tj tl=>wU cf hc hl n tj tl (hf.next gu e1) kP
  |leave fr j=>obtain⟨rfl,rfl⟩:=aQ (show M.pure (.leave fr j) s2= .ok x s1 from h2);exact wU cf hc hl n aY aC hf h1
theorem CE(cf:P.follows .mixedOrders=true)(hc:dD P B U7)(hl:∀t a,U5<|U7 t a):∀(n k:Nat) {ρ:aj} {w:World} {s s1:AS} {a:Act} {af:AF} {x:bN},Fr ρ af b a->At B ρ s af.nt af.tmps w a->bL s.nx s1.nx ρ->
 jR P U7 n k af s= .ok x s1->ja P B ρ s s1 w af b cs (lone (b.atR a af.todo) cs w) x
 |0,k,ρ,w,s,s1,a,af,x,aY,aC,hf,h=>by cases h
 |n+1,k,ρ,w,s,s1,a,af,x,aY,aC,hf,h=>by
  obtain⟨y,s2,h1,h2⟩:=M.aL (show((ju P U7 k af).bind fun x=> @bN.rec (fun _=>M bN) (fun fr=>jR P U7 n (Nat.succ k) fr) (fun fr j=>M.pure<|.leave fr j) x) s= .ok x s1 from h);have gu:=(U5.ju P hl k af).le aC.bo h1;have bU:=(U5.ju P hl k af).bo aC.bo h1;cases y with
  |go fr=>have kP:jR P U7 n (k+1) fr s2= .ok x s1:=h2;have kR:=(U5.jR P hl n (k+1) fr).le bU kP;have w1:=wU (b:=b) (cs:=cs) cf hc hl k aY aC (hf.sub (Nat.le_refl _) kR) h1;exact w1.Ea aY gu kR fun σ a' w' e1 tj tl=>CE cf hc hl n (k+1) tj tl (hf.next gu e1) kP
  |leave fr j=>obtain⟨rfl,rfl⟩:=aQ (show M.pure (.leave fr j) s2= .ok x s1 from h2);exact wU cf hc hl k aY aC hf h1
end
end Go.Rn
namespace Go.Rn
open Go.RowKit
section
variable {P:Program} {B:aH} {ρ:aj} {w:World} {s s1:AS} {U7:aJ}
theorem B3{nt:Nat}(gH:nt<=top):∀{ps:List Tmp} {args:List AV} {vs:List Value} {t:Tr AV} {arr:Array Value},TR ρ nt t arr->av ρ args vs->(∀p∈ps,p<nt)->
 TR ρ nt (kl ps args t) ((ps.zip vs).foldl (fun tmps (t,a)=>tmps.setIfInBounds t a) arr)
 |[],args,vs,t,arr,h,_,_=>by simpa[kl] using h
 |p::ps,[],vs,t,arr,h,hv,_=>by simp only[av] at hv;subst hv;simpa[kl] using h
 |p::ps,v::args,vs,t,arr,h,hv,hp=>by simp only[av] at hv;obtain⟨u,us,rfl,h1,h2⟩:=hv;simp only[kl,List.zip_cons_cons,List.foldl_cons];exact B3 gH (h.set (hp p List.mem_cons_self) gH h1) h2 fun q hq=>hp q<|List.mem_cons_of_mem _ hq
theorem Gs{l bl N:Nat}{j:Option Code}{x:AV}(fi:aS s)(r:Rel B ρ s.h w)(hl:ρ l=some (bl,N))(hj:∀c,j=some c->dN c)(h:endRound l j s= .ok x s1):
 s1.nx=s.nx/\x= .bool j.isNone/\∃w',(Instr.endRound bl j).run P w= .ok (.bool j.isNone) w'/\Rel B ρ s1.h w'/\bp B w w':=by
 unfold endRound at h;obtain⟨o,s2,h1,h2⟩:=M.aL h;obtain⟨h3,st,dP,fn,t,nt,ps,aa,bb,d,rfl⟩:=uu h1;obtain⟨u,s3,h4,h5⟩:=M.aL h2;obtain⟨rfl,rfl⟩:=aQ h5;obtain⟨e1,q,e2,e3,e4,_,_,_,_,_,_,_,e5,e6⟩:=C4 fi r h3 hl hj h4;refine⟨e1,rfl,_,?_,e5,e6⟩;cases j<;>simp only[Instr.endRound,Sem.run_bind,uk e2,Result.andThen_ok,B0 e2,Sem.run_pure]<;>rfl
theorem N3(cf:P.follows .mixedOrders=true)(hc:dD P B U7)(hl:∀t a,U5<|U7 t a){l bl N:Nat}{args:List AV}{vs:Array Value}{x:AV}(fi:aS s)(r:Rel B ρ s.h w)(hg:eh ρ)(hf:bL s.nx s1.nx ρ)(h:rV P U7 l args s= .ok x s1)(hv:av ρ args vs.toList)(tW:ρ l=some (bl,N)):fZ P ((Instr.yield bl vs).run P w)<|gC B ρ s s1 w x:=by
 unfold rV at h;obtain⟨o,s2,h1,h2⟩:=M.aL h;obtain⟨h3,st,dP,fn,t,nt,ps,aa,bb,d,rfl⟩:=uu h1;obtain⟨h4,h5⟩:=bP h2;obtain⟨y,s3,h6,h7⟩:=M.aL h5;obtain⟨q1,q2⟩:=and_true.1 h4;have hlen:=cC.1 q1;have Fj:∀p∈ps,p<nt:=fun p hp=>by have:=List.all_eq_true.1 q2 p hp;rw[←blt_eq];exact this
 obtain⟨hx,gl,hh,bq⟩:=eS h3;have bU:aS s2:=(U5.a9 _).bo fi h3;have aW:l<top:=Nat.lt_of_lt_of_le hx fi.nx;obtain⟨o',hb,hO,hB⟩:=r.block aW gl tW;obtain⟨ta,db,M,rfl,pT,gH,hd,cx⟩:=hO;have DC:(Instr.yield bl vs).run P w= .ok (.round bl fn ((ps.zip vs.toList).foldl (fun tmps (t,a)=>tmps.setIfInBounds t a) ta) aa bb) w:=by
  have gU:¬(vs.size≠ps.toArray.size):=by have:=hv.length;simp at this ⊢;omega
  simp only[Instr.yield,Sem.run_bind,uk hb,Result.andThen_ok,if_neg gU,Sem.run_pure];rw[←Array.foldl_toList];simp
 rw[DC];intro c cs;cases y with
 |go fr=>cases h7
 |leave fr j=>
  have tM:endRound l j s3= .ok x s1:=h7;let b:Frame:={(default:Frame) with fn:=fn,kind:=.normal,roundOf:=some bl};let a:Act:={tmps:=(ps.zip vs.toList).foldl (fun tmps (t,a)=>tmps.setIfInBounds t a) ta,defers:=[]};have kR:=(U5.jR P hl depth 2 ⟨fn,kl ps args t,nt,[.code aa,.beginRound,.code bb],[],some l⟩).le bU h6;have fE:=(U5.jR P hl depth 2 ⟨fn,kl ps args t,nt,[.code aa,.beginRound,.code bb],[],some l⟩).bo bU h6;have yV:=(U5.endRound l j).le fE tM;have aY:Fr ρ ⟨fn,kl ps args t,nt,[.code aa,.beginRound,.code bb],[],some l⟩ b a:=⟨rfl,rfl,⟨N,tW⟩,rfl,.cons cx.assign<|.cons trivial<|.cons cx.body .nil⟩;have aC:At B ρ s2 nt (kl ps args t) w a:=⟨B3 gH pT hv Fj,by rw[hh];exact r,hg,gH,bU⟩;obtain⟨σ,a',w',e1,e2,e3,e4,_,_,e6,e7⟩:=CE (cs:=c::cs) cf hc hl depth 2 aY aC (by rw[bq];exact hf.sub (Nat.le_refl _) yV) h6;have eM:Leaves j fr.todo:=e6;obtain⟨f1,rfl,iB,f2,f3,f4⟩:=Gs (P:=P) fE e2.rel (e1.le _ _ tW) eM.code tM;refine⟨.bool j.isNone,iB,⟨σ,by rw[f1, ←bq];exact e1,by simp only[VR],f3,e4.trans f4⟩,?_⟩;have ll:Frame.round bl fn ((ps.zip vs.toList).foldl (fun tmps (t,a)=>tmps.setIfInBounds t a) ta) aa bb .normal=b.atR a [.code aa,.beginRound,.code bb]:=rfl;rw[ll];refine Steps.trans e7<|.one ?_;show step P (lone (b.atR a' fr.todo) (c::cs) w')=_;unfold Leaves at eM;split at eM
  ·rw[eM];exact stepR_round_end rfl rfl f2
  ·obtain⟨k,e⟩:=eM;rw[e];exact stepR_round_ret rfl rfl f2
  ·obtain⟨k,e,e'⟩:=eM;rw[e];exact stepR_round_exit rfl rfl e' f2
  ·obtain⟨k,e,e'⟩:=eM;rw[e];exact stepR_round_goto rfl rfl e' f2
  ·cases eM
theorem MB{nt:Nat}{t:Tr AV}{tmps:Array Value}{rv:ResultVar}{x:AV}(ht:TR ρ nt t tmps)(fi:aS s)(r:Rel B ρ s.h w)(h:rT P t rv s= .ok x s1):
 s1.h=s.h/\s1.nx=s.nx/\aS s1/\∃v,(match rv with| .tmp t=>pure (tmps.getD t undef)| .cell a t=>do Go.loadVar t (←asAddr (tmps.getD a undef)):Sem Value).run P w= .ok v w/\VR ρ x v:=by
 cases rv with
 |tmp i=>obtain⟨hx,rfl⟩:=dt (show lift (t.get i) s= .ok x s1 from h);exact⟨rfl,rfl,fi,_,rfl,ht.2 i x hx⟩
 |cell a ty=>
  obtain⟨ad,s2,h1,h2⟩:=M.aL (show((lift (match t.get a with|some x=>addrOf x|none=>none)).bind fun a=>Rn.loadVar P ty a.1 a.2) s= .ok x s1 from h);obtain⟨h3,hs⟩:=dt h1;subst hs;cases Fk:t.get a with
  |none=>rw[Fk] at h3;cases h3
  |some xa=>
  rw[Fk] at h3;obtain⟨b,N,h4,h5⟩:=(ht.2 a xa Fk).C0 h3;obtain⟨a1,a2,v,a3,a4⟩:=Gy (P:=P) fi r h2 h4;exact⟨a1,a2,(U5.loadVar P ty _ _).bo fi h2,v,by simp[h5,asAddr,a3],a4⟩
theorem um{nt:Nat}{t:Tr AV}{tmps:Array Value}(ht:TR ρ nt t tmps):∀{l:List ResultVar} {vs:List AV} {s s1:AS},aS s->Rel B ρ s.h w->kW P t l s= .ok vs s1->
 s1.h=s.h/\s1.nx=s.nx/\∃us,(l.mapM fun| .tmp t=>pure (tmps.getD t undef)| .cell a t=>do Go.loadVar t (←asAddr (tmps.getD a undef)):Sem<|List Value).run P w= .ok us w/\av ρ vs us
 |[],vs,s,s1,fi,r,h=>by obtain⟨rfl,rfl⟩:=aQ (show M.pure [] s= .ok vs s1 from h);exact⟨rfl,rfl,[],rfl,by simp[av]⟩
 |rv::l,vs,s,s1,fi,r,h=>by
  obtain⟨v,s2,h1,h2⟩:=M.aL (show((rT P t rv).bind fun v=>(kW P t l).bind fun vs=>M.pure<|v::vs) s= .ok vs s1 from h);obtain⟨us,s3,h3,h4⟩:=M.aL h2;obtain⟨rfl,rfl⟩:=aQ h4;obtain⟨a1,a2,a3,u,a4,a5⟩:=MB ht fi r h1;obtain⟨b1,b2,BK,b3,b4⟩:=um ht a3 (by rw[a1];exact r) h3;refine⟨b1.trans a1,b2.trans a2,u::BK,?_,?_⟩
  ·rw[List.mapM_cons];simp only[Sem.run_bind,a4,Result.andThen_ok,b3,Sem.run_pure]
  ·simp only[av];exact⟨u,BK,rfl,a5,b4⟩
theorem uo{fr:Frame}{cs:List Frame}:∀{l:List Nat} {ds:List Deferred} {s s1:AS} {w:World} {u:Unit},aS s->Rel B ρ s.h w->pv ρ l ds->jj l s= .ok u s1->
 s1.nx=s.nx/\aS s1/\∃w',Rel B ρ s1.h w'/\bp B w w'/\∀(fr:Frame) (cs:List Frame),fr.mode≠ .run->fr.defers=ds->Steps P (lone fr cs w) (lone {fr with defers:=[]} cs w')
 |[],ds,s,s1,w,u,fi,r,hd,h=>by obtain⟨_,rfl⟩:=aQ (show M.pure () s= .ok u s1 from h);have BH:ds=[]:=hd;subst BH;exact⟨rfl,fi,w,r,bp.refl _ _,fun fr cs _ e=>by rw[←e];exact Steps.refl _ _⟩
 |d::l,ds,s,s1,w,u,fi,r,hd,h=>by
  obtain⟨b,N,TC,rfl,hn,TD⟩:=hd;obtain⟨o,s2,h1,h2⟩:=M.aL (show((a9 d).bind fun o=>match o with| .defs=>(ba d none).bind fun _=>jj l|_=>fail) s= .ok u s1 from h);obtain⟨hx,gl,hh,bq⟩:=eS h1;have bU:=(U5.a9 d).bo fi h1;have aW:d<top:=Nat.lt_of_lt_of_le hx fi.nx;obtain⟨o',hb,hO,hB⟩:=r.block aW gl hn;cases o with
  |defs=>
   obtain⟨u2,s3,h3,h4⟩:=M.aL h2;have fE:=(U5.ba d none).bo bU h3;obtain⟨_,_,_,i1,i2⟩:=hY h3;have yQ:o'= .deferred (some []):=hO;subst yQ;obtain⟨g3,g4⟩:=rG (o':=.deferred none) hb;obtain⟨k1,_⟩:=r.Jp aW gl rfl rfl hn g3;obtain⟨e1,e2,w',e3,e4,e5⟩:=uo (fr:=fr) (cs:=cs) fE (by rw[i1,hh];exact k1) TD h4;refine⟨by rw[e1,i2,bq],e2,w',e3,(g3.below<|hB rfl).trans e4,fun fr cs hm TE=>?_⟩;have Rs:(Instr.takeDeferred b).run P w= .ok [] {w with heap:=w.heap.setIfInBounds b<|.deferred none}:=by simp[Instr.takeDeferred,getObj,setObj,Sem.run,hb]
   have hs:=step_collected (P:=P) (cs:=cs) hm TE rfl Rs;exact .head hs<|e5 {fr with defers:=[]++TC} cs hm rfl
  |_=>cases h2
end
end Go.Rn
namespace Go.Rn
open Go.RowKit
section
variable {P:Program} {B:aH} {ρ:aj} {w:World} {s s1:AS} {U7:aJ}
theorem wD{args:List AV}{vs:Array Value}(hv:av ρ args vs.toList)(n:Nat)(hn:max n args.length<=top):TR ρ (max n args.length) (bG args)<|vs++Array.replicate (n - vs.size) undef:=by
 have hlen:=hv.length;simp only[Array.length_toList] at hlen;refine⟨by simp;omega,fun i x hx=>?_⟩;unfold bG at hx;rw[Tr.nS _ _ _ _<|by omega] at hx;by_cases h:i<args.length
 ·rw[if_pos (by omega),Nat.sub_zero] at hx;obtain⟨v,h1,h2⟩:=hv.get i x hx;rw[Array.getD_eq_getD_getElem?,Array.getElem?_append_left<|by omega];rw[Array.getElem?_toList] at h1;rw[h1];exact h2
 ·rw[if_neg (by omega),Tr.get_nil] at hx;cases hx
def AG:List AV->AV
 |[v]=>v
 |l=>.tuple l
def fK:List Value->Value
 |[v]=>v
 |l=>.tuple l.toArray
theorem wV:∀{rs:List AV} {us:List Value},av ρ rs us->VR ρ (AG rs) (fK us)
 |[],us,h=>by simp only[av] at h;subst h;simp only[AG,fK,VR,av];exact⟨_,rfl,rfl⟩
 |[v],us,h=>by simp only[av] at h;obtain⟨u,BK,rfl,g1,rfl⟩:=h;exact g1
 |v::v2::rs,us,h=>by simp only[av] at h;obtain⟨u,BK,rfl,g1,u2,TF,rfl,g3,g4⟩:=h;simp only[AG,fK,VR,av];exact⟨_,rfl,u,_,rfl,g1,u2,TF,rfl,g3,g4⟩
theorem wM{rs:List ResultVar}{fr:AF}{j:Option Code}{x:AV}(h:finish P rs fr j s= .ok x s1):
 (j=none\/j=some .ret)/\∃u s4 vs,jj fr.defers s= .ok u s4/\kW P fr.tmps rs s4= .ok vs s1/\x=AG vs:=by
 unfold finish at h;obtain⟨u,s3,h5,h6⟩:=M.aL h;have yI:s3=s/\(j=none\/j=some .ret):=by
  cases j with
  |none=>exact⟨(aQ (show M.pure () s= .ok u s3 from h5)).2,.inl rfl⟩
  |some c=>cases c<;>first|exact⟨(aQ (show M.pure () s= .ok u s3 from h5)).2,.inr rfl⟩|cases h5
 obtain⟨hs,hj⟩:=yI;clear h5 h;subst hs;obtain⟨u2,s4,h7,h8⟩:=M.aL h6;obtain⟨vs,s5,h9,dU⟩:=M.aL h8;refine⟨hj,u2,s4,vs,h7,?_⟩;cases vs with
 |nil=>obtain⟨rfl,rfl⟩:=aQ (show M.pure (.tuple []) s5= .ok x s1 from dU);exact⟨h9,rfl⟩
 |cons v rs=>
  cases rs with
  |nil=>obtain⟨rfl,rfl⟩:=aQ (show M.pure v s5= .ok x s1 from dU);exact⟨h9,rfl⟩
  |cons v2 rs=>obtain⟨rfl,rfl⟩:=aQ (show M.pure (.tuple<|v::v2::rs) s5= .ok x s1 from dU);exact⟨h9,rfl⟩
theorem OV(cf:P.follows .mixedOrders=true)(hc:dD P B U7)(hl:∀t a,U5<|U7 t a){f:FuncId}{fn:Func}{body:Code}{args:List AV}{vs:Array Value}{x:AV}(cI:P.funcs[f]? =some fn)(di:fn.body=some body)(eT:(fn.name == "runtime.NumGoroutine")=false)(cO:dN body)(fi:aS s)(r:Rel B ρ s.h w)(hg:eh ρ)(hf:bL s.nx s1.nx ρ)(h:vp P f fn.ntmps fn.results.toList body U7 args s= .ok x s1)(hv:av ρ args vs.toList):fZ P ((callFunc f vs).run P w)<|gC B ρ s s1 w x:=by
 have bh:(callFunc f vs).run P w= .ok (.enter f vs) w:=by
  have nk:(program).run P w= .ok P w:=rfl;have hn:fn.name≠ "runtime.NumGoroutine" :=by simpa using eT
  simp only[callFunc,Sem.run_bind,nk,Result.andThen_ok,cI,eT,di];simp
 rw[bh];intro cs;unfold vp at h;obtain⟨h1,h2⟩:=bP h;have jz:=aK.1 h1;obtain⟨y,s2,h3,h4⟩:=M.aL h2;cases y with
 |go fr=>cases h4
 |leave fr j=>
  have nH:finish P fn.results.toList fr j s2= .ok x s1:=h4;let b:Frame:={(default:Frame) with fn:=f,kind:=.normal,roundOf:=none};let a:Act:={tmps:=vs++Array.replicate (fn.ntmps - vs.size) undef,defers:=[]};have ll:Frame.enter P f vs .normal=b.atR a [.code body]:=by simp[Frame.enter,Frame.atR,cI,di,b,a]
  have aY:Fr ρ ⟨f,bG args,max fn.ntmps args.length,[.code body],[],none⟩ b a:=⟨rfl,rfl,trivial,rfl,.cons cO .nil⟩;have aC:At B ρ s (max fn.ntmps args.length) (bG args) w a:=⟨wD hv _ jz,r,hg,jz,fi⟩;have gu:=(U5.jR P hl depth 2 ⟨f,bG args,max fn.ntmps args.length,[.code body],[],none⟩).le fi h3;have bU:=(U5.jR P hl depth 2 ⟨f,bG args,max fn.ntmps args.length,[.code body],[],none⟩).bo fi h3;obtain⟨hj,u2,s4,rs,h7,h9,hx⟩:=wM nH;have Su:∀{l:List Nat} {s s1:AS} {u:Unit},jj l s= .ok u s1->s1.nx=s.nx:=by
   intro l;induction l with
   |nil=>intro s s1 u h;exact congrArg AS.nx (aQ (show M.pure () s= .ok u s1 from h)).2
   |cons d l ih=>
    intro s s1 u h;obtain⟨o,s2,q1,q2⟩:=M.aL (show((a9 d).bind fun o=>match o with| .defs=>(ba d none).bind fun _=>jj l|_=>fail) s= .ok u s1 from h);cases o with
    |defs=>obtain⟨u2,s3,q3,q4⟩:=M.aL q2;rw[ih q4,(hY q3).2.2.2.2,(eS q1).2.2.2]
    |_=>cases q2
  have Sv:∀{l:List ResultVar} {t:Tr AV} {vs:List AV} {s s1:AS},aS s->kW P t l s= .ok vs s1->s.nx<=s1.nx:=by intro l t vs s s1 fi h;exact(U5.kW P t l).le fi h
  have n4:=Su h7;have gW:aS s4:=(U5.jj _).bo bU h7;have n5:=Sv gW h9;obtain⟨σ,a',w',e1,e2,e3,e4,⟨e5,tX,Sw⟩,e6,e7,e8⟩:=CE (b:=b) (cs:=cs) cf hc hl depth 2 aY aC (hf.sub (Nat.le_refl _)<|by omega) h3;have jd:Leaves j fr.todo:=e7;obtain⟨d1,d2,w2,d3,d4,d5⟩:=uo (P:=P) (fr:=b) (cs:=cs) bU e2.rel e3 h7;obtain⟨f1,f2,us,f3,f4⟩:=um (P:=P) (w:=w2) e2.tr gW d3 h9;have om:Steps P (lone (b.atR a' fr.todo) cs w')<|lone {b.atR a' fr.todo with mode:=.returning} cs w':=by
   rcases hj with rfl|rfl
   ·have e:fr.todo=[]:=jd;rw[e];exact .one<|stepR_end rfl
   ·obtain⟨k,e⟩:=jd;rw[e];exact .one<|stepR_ret rfl
  have lr:=d5 {b.atR a' fr.todo with mode:=.returning} cs (by simp) rfl;have jU:(results fn a'.tmps).run P w2= .ok (fK us) w2:=by
   unfold results;rw[Array.mapM_eq_mapM_toList];simp only[Sem.run_bind,map_eq_pure_bind,Sem.run_pure];refine Eq.trans (congrArg (fun r:Result (List Value)=>(r.andThen fun a w'=>Result.ok a.toArray w').andThen fun a w'=>Result.ok (if h:a.size=1 then a[0] else Value.tuple a) w') f3) ?_;have:∀l:List Value,(Result.ok (if h:l.toArray.size=1 then l.toArray[0] else Value.tuple l.toArray) w2:Result Value)= .ok (fK l) w2:=by
    intro l
    match l with
    |[]=>rfl
    |[v]=>rfl
    |v::v2::l=>simp[fK]
   exact this us
  refine⟨.returned<|fK us,w2,{b.atR a' fr.todo with mode:=.returning,defers:=[]},⟨_,rfl,?_⟩,?_,rfl,?_⟩
  ·exact⟨σ,by rw[show s1.nx=s2.nx by rw[f2,d1]];exact e1,by rw[hx];exact wV f4,by rw[f1];exact d3,e4.trans d4⟩
  ·rw[ll];exact Steps.trans e8<|Steps.trans om lr
  ·exact⟨rfl,rfl,rfl,fn,cI,jU⟩
structure du (P:Program):Prop where
 mixed:P.follows .mixedOrders=true
 code:∀(f:FuncId) (fn:Func) (body:Code),P.funcs[f]? =some fn->fn.body=some body->dN body
def DD(P:Program)(B:aH)(cL:FuncId->Nat):Prop:=∀(n:Nat) (f:FuncId),(cL f=1\/cL f=2\/cL f=3)->dD P B (oj P cL n)->∀(args:List AV) (x:AV) (s s1:AS) (ρ:aj) (w:World) (vs:Array Value),aS s->Rel B ρ s.h w->eh ρ->bL s.nx s1.nx ρ->(qU P cL f).val (oj P cL n) args s= .ok x s1->av ρ args vs.toList->fZ P ((callFunc f vs).run P w) (gC B ρ s s1 w x)
theorem H8(hP:du P){cL:FuncId->Nat}(hw:DD P B cL):∀(n:Nat),dD P B (oj P cL n)
 |0=>⟨(fun f args x s s1 ρ w vs _ _ _ _ h _=>by cases h),(fun l b N args x s s1 ρ w vs _ _ _ _ h _ _=>by cases h),(fun n o k x s s1 ρ w _ _ h=>by cases h)⟩
 |n+1=>by
  have ih:=H8 hP hw n;refine⟨fun f args x s s1 ρ w vs fi r hg hf h hv=>?_,fun l b N args x s s1 ρ w vs fi r hg hf h hv hl=>N3 hP.mixed ih (wK P cL n) fi r hg hf h hv hl,fun n o k x s s1 ρ w _ _ h=>by cases h⟩;have h':(qU P cL f).val (oj P cL n) args s= .ok x s1:=h;by_cases q:cL f=1\/cL f=2\/cL f=3
  ·exact hw n f q ih args x s s1 ρ w vs fi r hg hf h' hv
  ·unfold qU at h';split at h'
   ·rename_i e;exact absurd (.inr<|.inl e) q
   ·rename_i e;exact absurd (.inr<|.inr e) q
   ·cases e1:P.funcs[f]? with
    |none=>rw[e1] at h';cases h'
    |some fn=>
     rw[e1] at h';cases e2:fn.body with
     |none=>simp only[e2] at h';cases h'
     |some body=>
      simp only[e2] at h';cases e3:(fn.name == "runtime.NumGoroutine") with
      |true=>simp only[e3] at h';cases h'
      |false=>
       simp only[e3] at h';cases e4:Nat.beq (cL f) 1 with
       |true=>exact absurd (.inl<|cC.1 e4) q
       |false=>simp only[e4] at h';exact OV hP.mixed ih (wK P cL n) e1 e2 e3 (hP.code f fn body e1 e2) fi r hg hf h' hv
end
end Go.Rn
namespace Go.Rn
open Go.RowKit
theorem N4{P:Program}{B:aH}{ρ:aj}{w:World}{s s1:AS}{args:List AV}{vs:Array Value}{x:AV}(fi:aS s)(r:Rel B ρ s.h w)(hf:bL s.nx s1.nx ρ)(hv:av ρ args vs.toList)(h:qe args s= .ok x s1):
 eK P B ρ s s1 w x (Extern.MapsClone.clone vs):=by
 unfold qe at h;split at h
 ·rename_i t m;obtain⟨vs⟩:=vs;simp only[av,VR] at hv;obtain⟨v,l,rfl,⟨y,rfl,b,N,hm,rfl⟩,rfl⟩:=hv;obtain⟨ob,s2,h1,h2⟩:=M.aL h;obtain⟨hx,hg,hh,bq⟩:=eS h1;have ht:m<top:=Nat.lt_of_lt_of_le hx fi.nx;obtain⟨o',hb,hO,hB⟩:=r.block ht hg hm;have fin:∀(yW:U) (l:Array MapEntry) (aM:Nat),yW.own=true->w.heap[b]? =some (.map l aM)->(∀σ N',ρ.le σ->OR σ N' yW (.map l aM))->
   ((cZ yW).bind fun n=>M.pure<|.iface t<|.map<|some n) s2= .ok x s1->eK P B ρ s s1 w x (Extern.MapsClone.clone ⟨[.iface t<|.map<|some b]⟩):=by
   intro yW l aM hp ft yQ h3;obtain⟨n,s3,h4,h5⟩:=M.aL h3;obtain⟨rfl,rfl⟩:=aQ h5;obtain⟨yJ,rfl,rfl⟩:=kX h4;have eG:ρ s2.nx=none:=hf s2.nx (by omega) (Nat.lt_succ_self _) (by omega);refine⟨eg ρ s2.nx (w.heap.size,1),{w with heap:=w.heap.push<|.map l aM},.iface t<|.map<|some w.heap.size,?_,?_,?_,?_,(dA.alloc w _).below r.size⟩
   ·rw[←bq];exact Ext.bB eG
   ·have e:Extern.MapsClone.clone ⟨[.iface t<|.map<|some b]⟩=(getObj b >>= fun o=>match o with
     | .map entries aM=>(newObj (.map entries aM) >>= fun n=>pure<|.iface t<|.map<|some n)
     |_=>stuck "maps.clone: a map expected"):=rfl
    rw[e];simp[MapKept.run_getObj_map ft,newObj,Sem.run]
   ·simp only[VR];exact⟨_,rfl,_,_,fH _ _ _,rfl⟩
   ·show Rel B _ (s2.h.put s2.nx<|some yW) _;rw[hh];exact r.new yJ eG hp<|yQ _ _<|lZ eG
  cases ob with
  |map es aM=>obtain⟨l,rfl,hc,he⟩:=hO;exact fin (.map es aM) l aM rfl hb (fun σ N' hle=>⟨l,rfl,hc,he.mono hle⟩) h2
  |cW es=>obtain⟨l,aM,rfl,ka,oB,he⟩:=hO;exact fin (.cW es) l aM rfl hb (fun σ N' hle=>⟨l,aM,rfl,ka,oB,he.mono hle⟩) h2
  |_=>cases h2
 ·cases h
end Go.Rn
namespace Go.Rn
open Go.RowKit
def H9(W:World):aj:=fun k=>if k<gj then some (k,match W.heap[k]? with|some (.cells c _ _)=>c.size|_=>0) else none
end Go.Rn
namespace Go.Rn
open Go.RowKit
theorem HB{ρ:aj}{e:MapEntry}:∀{left:List<|AV×AV} {l:List MapEntry},cH ρ left l->e∈l->
 ∃x r l',(x,r)∈pa left/\VR ρ x.1 e.key/\VR ρ x.2 e.val/\cH ρ r l'/\l.Perm (e::l')
 |[],l,h,he=>by simp only[cH] at h;subst h;cases he
 |y::ys,l,h,he=>by
  simp only[cH] at h;obtain⟨e0,es,rfl,h1,h2,h3⟩:=h;rcases List.mem_cons.1 he with rfl|he
  ·exact⟨y,ys,es,by simp[pa],h1,h2,h3,List.Perm.refl _⟩
  ·obtain⟨x,r,l',k1,k2,k3,k4,k5⟩:=HB h3 he;refine⟨x,y::r,e0::l',?_,k2,k3,?_,?_⟩
   ·simp only[pa,List.mem_cons,List.mem_map];exact .inr ⟨(x,r),k1,rfl⟩
   ·simp only[cH];exact⟨e0,l',rfl,h1,h2,k4⟩
   ·exact(List.Perm.cons e0 k5).trans<|List.Perm.swap e e0 l'
theorem cH.PG{ρ:aj}{left:List<|AV×AV}(h:cH ρ left []):left=[]:=by
 cases left with
 |nil=>rfl
 |cons x xs=>simp only[cH] at h;obtain⟨e,es,h,_⟩:=h;cases h
section
variable {P:Program} {B:aH} {ρ:aj} {w w':World} {h:Tr U} {n m:Nat} {es left fB:List<|AV×AV} {ex:Bool} {cur fD:Option<|AV×AV} {b N:Nat}
theorem G8{w1:World}{o:Obj}(hw:w1=w\/w1=w.drew):o7 b w<|ChangeMaps.setBlock w1 b o:=by
 have h1:(ChangeMaps.setBlock w1 b o).heap=w.heap.setIfInBounds b o:=by rcases hw with rfl|rfl<;>rfl
 refine⟨?_,?_,?_,by rw[h1];simp,fun k hk=>?_⟩
 ·rcases hw with rfl|rfl<;>rfl
 ·rcases hw with rfl|rfl<;>rfl
 ·rcases hw with rfl|rfl<;>rfl
 ·rw[h1,Array.getElem?_setIfInBounds_ne<|by omega]
theorem jr.next(ty:TypeId)(u:jr ρ w n m es ex left cur):∃b N,ρ n=some (b,N)/\
 ((left=[]/\(Instr.next (.pointer<|some ⟨b,0,none⟩) false ty).run P w= .ok (.tuple #[.bool false]) w)\/
 ∃x r v1 v2 w',(x,r)∈pa left/\VR ρ x.1 v1/\VR ρ x.2 v2/\(Instr.next (.pointer<|some ⟨b,0,none⟩) false ty).run P w= .ok (.tuple #[.bool true,v1,v2]) w'/\o7 b w w'/\(∃bm M c sn,ρ m=some (bm,M)/\w'.heap[b]? =some (.mapIter (some bm) c sn c))/\jr ρ w' n m es ex r (some x)):=by
 obtain⟨b,N,bm,M,l,aM,seen,h1,h2,h3,h4,h5,h6,h7,h8,h9⟩:=u;refine⟨b,N,h1,?_⟩;have wc:(leftOf l seen).toList=l.toList.filter fun e=> !seen.contains e.born:=by simp[leftOf]
 obtain⟨l',hp,hq⟩:=h8;rcases run_next_at (P:=P) w ty b bm aM aM seen l aM h3 h4 h5.2 (Nat.le_refl _) with⟨k1,k2⟩|⟨e,he,w1,kb,k2⟩
 ·refine .inl ⟨?_,k2⟩;have:(leftOf l seen).toList=[]:=by apply List.eq_nil_of_length_eq_zero;simpa using k1
  rw[wc] at this;rw[this] at hp;have jH:=hp.symm.eq_nil;subst jH;exact hq.PG
 ·refine .inr ?_;rw[wc] at he;have yN:e∈l':=hp.mem_iff.1 he;obtain⟨x,r,we,p1,p2,p3,p4,p5⟩:=HB hq yN;have bS:bm≠b:=by intro q;subst q;rw[h3] at h4;cases h4
  have ft:(ChangeMaps.setBlock w1 b<|.mapIter (some bm) aM (seen.push e.born) aM).heap[b]? =some (.mapIter (some bm) aM (seen.push e.born) aM):=by
   have aW:b<w.heap.size:=fU h3;have:(ChangeMaps.setBlock w1 b<|.mapIter (some bm) aM (seen.push e.born) aM).heap=w.heap.setIfInBounds b (.mapIter (some bm) aM (seen.push e.born) aM):=by rcases kb with rfl|rfl<;>rfl
   rw[this,Array.getElem?_setIfInBounds_self_of_lt aW]
  refine⟨x,r,e.key,e.val,_,p1,p2,p3,k2,G8 kb,⟨bm,M,aM,seen.push e.born,h2,ft⟩,?_⟩;have nr:e∈l.toList:=(List.mem_filter.1 he).1;have pS:((e::we).map (·.born)).Nodup:=by have a:((l.toList.filter fun e=> !seen.contains e.born).map (·.born)).Nodup:=(List.filter_sublist.map _).nodup h5.1;exact((hp.trans p5).map _).nodup_iff.1 a
  rw[List.map_cons,List.nodup_cons] at pS;refine⟨b,N,bm,M,l,aM,seen.push e.born,h1,h2,ft,((G8 kb).block bm bS).trans h4,h5,h6,h7,⟨we,?_,p4⟩,⟨e,nr,by simp,p2,p3⟩⟩;have e1:(l.toList.filter fun x=> !(seen.push e.born).contains x.born)=(l.toList.filter fun x=> !seen.contains x.born).filter fun x=> !(x.born == e.born):=by rw[List.filter_filter];congr 1;funext x;simp only[Array.contains_push];rw[Bool.not_or,Bool.and_comm]
  have e2:(e::we).filter (fun x=> !(x.born == e.born))=we:=by
   rw[List.filter_cons];simp only[beq_self_eq_true,Bool.not_true,Bool.false_eq_true,if_false];refine List.filter_eq_self.2 fun x hx=>?_;have:¬x.born=e.born:=by intro q;exact pS.1 (by rw[←q];exact List.mem_map_of_mem hx)
   simp[this]
  rw[e1];have:=(hp.trans p5).filter fun x=> !(x.born == e.born);rw[e2] at this;exact this
theorem Rel.Qs(r:Rel B ρ h w)(ht:n<top)(hg:h.get n=some (.iter m es ex left cur))(hr:ρ n=some (b,N))(hw:o7 b w w')(hb:∃bm M c sn,ρ m=some (bm,M)/\w'.heap[b]? =some (.mapIter (some bm) c sn c))(u:jr ρ w' n m es ex fB fD):Rel B ρ (h.put n<|some<|.iter m es ex fB fD) w':=by
 obtain⟨_,_,_,hB⟩:=r.block ht hg hr;obtain⟨kQ,dO,_⟩:=r.iter n m es ex left cur ht hg;have mC:m≠n:=by intro e;subst e;rw[hg] at dO;cases dO
 have g:∀k,k<top->(h.put n<|some<|.iter m es ex fB fD).get k=if k=n then some (.iter m es ex fB fD) else h.get k:=fun k hk=>Tr.cV _ _ _ _ ht hk
 have live:∀j,j<top->∀x,(if j=n then some (U.iter m es ex fB fD) else h.get j)=some x->∃y,h.get j=some y/\(x.bQ=false->y.bQ=false):=by
  intro j _ x hx;by_cases e:j=n
  ·subst e;exact⟨_,hg,fun _=>rfl⟩
  ·rw[if_neg e] at hx;exact⟨x,hx,id⟩
 refine⟨?_,?_,?_,by rw[hw.size];exact r.size,?_,r.fz.of (aj.le_refl _) (fun b1 _ hn=>hw.block b1 fun e=>hn n _ N ht hg rfl (by rw[e];exact hr)) (fun b1 _ hn=>hn.sub fun k q hk hq dm=>by
  rw[g k hk] at hq;obtain⟨y,e1,e2⟩:=live k hk q hq;exact⟨y,e1,e2 dm⟩),r.tk.of (aj.le_refl _) (fun k q hk hq mj=>by
  rw[g k hk] at hq;by_cases e:k=n
  ·rw[if_pos e] at hq;cases hq;cases mj
  ·rw[if_neg e] at hq;exact hq) (by rw[hw.size];exact Nat.le_refl _) (fun b1 _ hn=>hw.block b1 fun e=>hn n _ N ht hg rfl (by rw[e];exact hr)) (fun b1 _ hn=>hn.sub fun k q hk hq dm=>by
  rw[g k hk] at hq;obtain⟨y,e1,e2⟩:=live k hk q hq;exact⟨y,e1,e2 dm⟩) fun _ _ _ _ _ e=>e⟩
 ·intro k q hk hq;rw[g k hk] at hq;by_cases e:k=n
  ·subst e;rw[if_pos rfl] at hq;cases hq;obtain⟨bm,M,c,sn,q1,q2⟩:=hb;exact⟨b,N,_,hr,q2,⟨bm,M,c,sn,q1,rfl⟩,fun _=>hB rfl⟩
  ·rw[if_neg e] at hq;obtain⟨b1,N1,o1,h1,h2,h3,h4⟩:=r.is k q hk hq;refine⟨b1,N1,o1,h1,(hw.block b1 fun e2=>?_).trans h2,h3,h4⟩;subst e2;exact e<|r.one k n q _ b1 N1 N hk ht hq hg (.inr rfl) h1 hr
 ·intro k j q q' b1 N1 M1 hk hj hq dk ct h1 h2;rw[g k hk] at hq;rw[g j hj] at dk;obtain⟨y,hy,mA⟩:=live k hk q hq;obtain⟨z,hz,tK⟩:=live j hj q' dk;exact r.one k j y z b1 N1 M1 hk hj hy hz (ct.imp mA tK) h1 h2
 ·intro i m' dT fM l' c' hi hq;rw[g i hi] at hq;by_cases e:i=n
  ·subst e;rw[if_pos rfl] at hq;cases hq;exact⟨kQ,by rw[g m kQ,if_neg mC];exact dO,u⟩
  ·rw[if_neg e] at hq;obtain⟨da,hl,u'⟩:=r.iter i m' dT fM l' c' hi hq;have Bc:m'≠n:=by intro e2;subst e2;rw[hg] at hl;cases hl
   refine⟨da,by rw[g m' da,if_neg Bc];exact hl,u'.nq hw.block (fun M e2=>e ?_) fun M e2=>Bc ?_⟩
   ·exact r.one i n _ _ b M N hi ht hq hg (.inr rfl) e2 hr
   ·exact r.one m' n _ _ b M N da ht hl hg (.inr rfl) e2 hr
 ·intro i j m' qY qZ qF qM rb BG AR A8 hi hj q1 q2;rw[g i hi] at q1;rw[g j hj] at q2;have Le:∀k,k<top->∀qY qZ qF qM,(if k=n then some (U.iter m es ex fB fD) else h.get k)=some (.iter m' qY qZ qF qM)->∃rb BG AR A8,h.get k=some (.iter m' rb BG AR A8):=by
   intro k _ qY qZ qF qM q;by_cases e:k=n
   ·subst e;rw[if_pos rfl] at q;cases q;exact⟨_,_,_,_,hg⟩
   ·rw[if_neg e] at q;exact⟨_,_,_,_,q⟩
  obtain⟨_,_,_,_,a1⟩:=Le i hi _ _ _ _ q1;obtain⟨_,_,_,_,a2⟩:=Le j hj _ _ _ _ q2;exact r.lone i j m' _ _ _ _ _ _ _ _ hi hj a1 a2
theorem Rel.OW{o:U}{o':Obj}(r:Rel B ρ h w)(ht:m<top)(hg:h.get m=some .fp)(hr:ρ m=some (b,N))(hb:w.heap[b]? =some o')(hO:OR ρ N o o')(yG:o.own=true)(iZ:∀i es ex left cur,i<top->h.get i≠some (.iter m es ex left cur)):Rel B ρ (h.put m<|some o) w:=by
 obtain⟨ho,xX⟩:=U.rK yG;obtain⟨_,_,_,hB⟩:=r.block ht hg hr;have g:∀k,k<top->(h.put m<|some o).get k=if k=m then some o else h.get k:=fun k hk=>Tr.cV _ _ _ _ ht hk
 have live:∀j,j<top->∀x,(if j=m then some o else h.get j)=some x->∃y,h.get j=some y/\(x.bQ=false->y.bQ=false):=by
  intro j _ x hx;by_cases e:j=m
  ·subst e;exact⟨_,hg,fun _=>rfl⟩
  ·rw[if_neg e] at hx;exact⟨x,hx,id⟩
 refine⟨?_,?_,?_,r.size,?_,r.fz.of (aj.le_refl _) (fun _ _ _=>rfl) (fun b1 _ hn=>hn.sub fun k q hk hq dm=>by
  rw[g k hk] at hq;obtain⟨y,e1,e2⟩:=live k hk q hq;exact⟨y,e1,e2 dm⟩),r.tk.of (aj.le_refl _) (fun k q hk hq mj=>by
  rw[g k hk] at hq;by_cases e:k=m
  ·rw[if_pos e] at hq;cases hq;rw[xX] at mj;cases mj
  ·rw[if_neg e] at hq;exact hq) (Nat.le_refl _) (fun _ _ _=>rfl) (fun b1 _ hn=>hn.sub fun k q hk hq dm=>by
  rw[g k hk] at hq;obtain⟨y,e1,e2⟩:=live k hk q hq;exact⟨y,e1,e2 dm⟩) fun _ _ _ _ _ e=>e⟩
 ·intro k q hk hq;rw[g k hk] at hq;by_cases e:k=m
  ·subst e;rw[if_pos rfl] at hq;cases hq;exact⟨b,N,_,hr,hb,hO,fun _=>hB rfl⟩
  ·rw[if_neg e] at hq;exact r.is k q hk hq
 ·intro k j q q' b1 N1 M1 hk hj hq dk ct h1 h2;rw[g k hk] at hq;rw[g j hj] at dk;obtain⟨y,hy,mA⟩:=live k hk q hq;obtain⟨z,hz,tK⟩:=live j hj q' dk;exact r.one k j y z b1 N1 M1 hk hj hy hz (ct.imp mA tK) h1 h2
 ·intro i m' dT fM l' c' hi hq;rw[g i hi] at hq;by_cases e:i=m
  ·subst e;rw[if_pos rfl] at hq;cases hq;simp[U.plain] at ho
  ·rw[if_neg e] at hq;obtain⟨da,hl,u'⟩:=r.iter i m' dT fM l' c' hi hq;have Bc:m'≠m:=by intro e2;subst e2;exact iZ i _ _ _ _ hi hq
   exact⟨da,by rw[g m' da,if_neg Bc];exact hl,u'⟩
 ·intro i j m' qY qZ qF qM rb BG AR A8 hi hj q1 q2;rw[g i hi] at q1;rw[g j hj] at q2;by_cases e:i=m
  ·rw[if_pos e] at q1;cases q1;simp[U.plain] at ho
  ·rw[if_neg e] at q1;by_cases e2:j=m
   ·rw[if_pos e2] at q2;cases q2;simp[U.plain] at ho
   ·rw[if_neg e2] at q2;exact r.lone i j m' _ _ _ _ _ _ _ _ hi hj q1 q2
theorem Rel.Sx(r:Rel B ρ h w)(ht:n<top)(hg:h.get n=some (.iter m es ex left cur)):Rel B ρ ((h.put n none).put m<|some<|mapOf ex es) w:=by
 obtain⟨kQ,dO,b,N,bm,M,l,aM,seen,h1,h2,h3,h4,h5,h6,h7,h8,h9⟩:=r.iter n m es ex left cur ht hg;have mC:m≠n:=by intro e;subst e;rw[hg] at dO;cases dO
 have g:∀k,k<top->(h.put n none).get k=if k=n then none else h.get k:=fun k hk=>Tr.cV _ _ _ _ ht hk
 refine(r.drop ht (by rw[hg];simp)).OW kQ (by rw[g m kQ,if_neg mC];exact dO) h2 h4 ?_ (by cases ex<;>rfl) ?_
 ·cases ex with
  |true=>obtain⟨q1,q2⟩:=h6 rfl;subst q1;exact⟨l,rfl,rfl,q2⟩
  |false=>obtain⟨q1,q2⟩:=h7 rfl;exact⟨l,aM,rfl,q1,h5,q2⟩
 ·intro i dT fM fB fD hi hq;rw[g i hi] at hq;by_cases e:i=n
  ·rw[if_pos e] at hq;cases hq
  ·rw[if_neg e] at hq;exact e<|r.lone i n m _ _ _ _ _ _ _ _ hi ht hq hg
end
end Go.Rn
namespace Go.Rn
open Go.RowKit
section
variable {P:Program} {B:aH} {ρ:aj} {w w1:World} {s s1 s2:AS} {U7:aJ} {b:Frame} {a:Act} {cs:List Frame}
theorem put_defers(a:Act)(dst:Option Tmp)(v:Value):(a.put dst v).defers=a.defers:=by cases dst<;>rfl
theorem GM{fr:AF}{id:Nat}{ops:Array Oper}{o:Oper}{rest:List Oper}{k:List Item}{t1 t2:Tr AV}{v:Value}(hc:dD P B U7)(hl:∀t a,U5<|U7 t a)(aY:Fr ρ fr b a)(me:fr.todo= .code (.region id ops false)::k)(iH:ops.toList=o::rest)(BL:o.guard=none)(hd:∀c,o.op≠ .defer c)(pq:(execOp a.eval o).run P w= .ok (.value v) w1)(yd:bp B w w1)(aC:At B ρ s1 fr.nt t1 w1<|a.put o.dst v)(bq:s1.nx=s.nx)(hf:bL s1.nx s2.nx ρ)(h:fY P U7 fr.nt ops rest t1 s1= .ok t2 s2):
 ja P B ρ s s2 w fr b cs (lone (b.atR a fr.todo) cs w) (.go {fr with tmps:=t2,todo:=k}):=by
 have hw:Region.wanted o (yielded ops a.tmps)=true:=by unfold Region.wanted;rw[BL]
 have ho:ops[0]? =some o:=by rw[←Array.getElem?_toList,iH];rfl
 have gU:ops.size=rest.length+1:=by rw[←Array.length_toList,iH];rfl
 have hk:fx k:=by have:=aY.ok;rw[me] at this;exact this.tail
 obtain⟨v',w',⟨rfl,rfl⟩,st⟩:=G4 (R:=fun v' w'=>v'=v/\w'=w1) ho hw hd (by unfold fZ;rw[pq];exact⟨rfl,rfl⟩) b k cs<|List.range' 1 rest.length;obtain⟨σ,a',w2,e1,e2,e3,e4,e5⟩:=C3 hc hl b k cs rest.length 1 rest rfl (by rw[iH];rfl) aC hf h;refine⟨σ,a',w2,by rw[←bq];exact e1,e2,?_,yd.trans e4,⟨rfl,rfl,rfl⟩,hk,trivial,?_⟩
 ·rw[e3,put_defers];exact aY.defs.mono e1.le
 ·rw[me];refine .head stepR_region ?_;rw[List.range_eq_range',gU,List.range'_succ];exact Steps.trans st e5
theorem MW{fr:AF}{it:Operand}{n:Nat}{ob:U}(h:nX fr it s= .ok (n,ob) s1):ar fr.tmps it=some (.ptr<|some (n,0))/\a9 n s= .ok ob s1:=by
 unfold nX at h;obtain⟨x,s2,h1,h2⟩:=M.aL h;obtain⟨h3,rfl⟩:=dt h1;split at h2
 ·obtain⟨y,s3,h4,h5⟩:=M.aL h2;obtain⟨h6,rfl⟩:=aQ h5;cases h6;exact⟨h3,h4⟩
 ·cases h2
theorem MC{fr:AF}{it:Operand}{o:Oper}{ops:Array Oper}{rest:List Oper}{k:List Item}(h:rU fr=some (it,o,ops,rest,k)):
 ∃id,fr.todo= .code (.region id ops false)::k/\ops.toList=o::rest/\o.guard=none/\o.op= .next it false:=by
 unfold rU at h;split at h
 ·rename_i id Vk k' me;split at h
  ·rename_i o' Vh iH;split at h
   ·rename_i Vv hg ho;cases h;exact⟨id,me,iH,hg,ho⟩
   ·cases h
  ·cases h
 ·cases h
theorem GN{α β:Type}{f:α->Option (List β)}:∀{l:List α} {outs:List β},collect f l=some outs->∀x∈l,∃a,f x=some a/\∀y∈a,y∈outs
 |[],outs,h,x,hx=>by cases hx
 |z::l,outs,h,x,hx=>by
  simp only[collect] at h;cases e:f z with
  |none=>rw[e] at h;cases h
  |some a=>
   rw[e] at h;cases e2:collect f l with
   |none=>simp only[e2] at h;cases h
   |some c=>
    simp only[e2] at h;injection h with h;subst h
    rcases List.mem_cons.1 hx with rfl|hx
    ·exact⟨a,e,fun y hy=>List.mem_append.2<|.inl hy⟩
    ·obtain⟨a',h1,h2⟩:=GN e2 x hx;exact⟨a',h1,fun y hy=>List.mem_append.2<|.inr<|h2 y hy⟩
def Comes(P:Program)(B:aH)(ρ:aj)(s:AS)(w:World)(fr:AF)(b:Frame)(cs:List Frame)(m:Machine)(outs:List<|(AF×Option Code)×AS):Prop:=∃lI j s1,((lI,j),s1)∈outs/\ja P B ρ s s1 w fr b cs m (.leave lI j)
theorem G9(cf:P.follows .mixedOrders=true)(hc:dD P B U7)(hl:∀t a,U5<|U7 t a):∀(f:Nat) {ρ:aj} {w:World} {s:AS} {a:Act} {fr:AF} {outs:List<|(AF×Option Code)×AS},
 Fr ρ fr b a->At B ρ s fr.nt fr.tmps w a->(∀x∈outs,bL s.nx x.2.nx ρ)->jl P U7 f fr s=some outs->Comes P B ρ s w fr b cs (lone (b.atR a fr.todo) cs w) outs
 |0,ρ,w,s,a,fr,outs,_,_,_,h=>by cases h
 |f+1,ρ,w,s,a,fr,outs,aY,aC,hf,h=>by
  have C5:∀{s2:AS} {aX:AF} {qG:List<|(AF×Option Code)×AS},(∀y∈qG,y∈outs)->jl P U7 f aX s2=some qG->aS s2->s.nx<=s2.nx->ja P B ρ s s2 w fr b cs (lone (b.atR a fr.todo) cs w) (.go aX)->
   Comes P B ρ s w fr b cs (lone (b.atR a fr.todo) cs w) outs:=by
   intro s2 aX qG ye h2 bU gu Rt;obtain⟨ne,g1,_⟩:=nP P hl f aX s2 qG bU h2;have hle:∀y∈qG,s2.nx<=y.2.nx:=fun y hy=>by obtain⟨dr,dw,d⟩:=g1 y hy;exact d.nx
   have key:∀σ a' w',Ext s.nx s2.nx ρ σ->Fr σ aX b a'->At B σ s2 aX.nt aX.tmps w' a'->Comes P B σ s2 w' aX b cs (lone (b.atR a' aX.todo) cs w') qG:=fun σ a' w' e1 tj tl=>G9 cf hc hl f tj tl (fun x hx=>(hf x<|ye x hx).next gu e1) h2;obtain⟨σ,a',w',e1,e2,e3,e4,⟨e5,e6,e7⟩,e8,_,e9⟩:=Rt;have tX:aX.fn=fr.fn:=e5;have eM:aX.nt=fr.nt:=e6;have jd:aX.round=fr.round:=e7;have Sy:Fr σ aX b a':=⟨aY.fn.trans tX.symm,aY.kind,by have:=aY.round.mono e1.le;rw[←jd] at this;exact this,e3,e8⟩;obtain⟨lI,j,s1,fw,τ,tS,iB,f1,f2,f3,f4,⟨f5,f6,f7⟩,f8,f9,f10⟩:=key σ a' w' e1 Sy (by rw[eM];exact e2);exact⟨lI,j,s1,ye _ fw,τ,tS,iB,e1.trans gu (hle _ fw) f1,by rw[eM] at f2;exact f2,f3,e4.trans f4,⟨f5.trans tX,f6.trans eM,f7.trans jd⟩,f8,f9,Steps.trans e9 f10⟩
  cases e:rU fr with
  |none=>
   rw[Gv e] at h;unfold kr at h;cases e1:gk P U7 fr s with
   |bad=>simp only[e1] at h;cases h
   |ok x s2=>
    simp only[e1] at h;have bU:=(U5.gk P hl fr).bo aC.bo e1;have gu:=(U5.gk P hl fr).le aC.bo e1;cases x with
    |go aX=>have h':jl P U7 f aX s2=some outs:=h;obtain⟨ne,g1,_⟩:=nP P hl f aX s2 outs bU h';obtain⟨y,hy⟩:=List.exists_mem_of_ne_nil _ ne;obtain⟨dr,dw,d⟩:=g1 y hy;exact C5 (fun _ hy=>hy) h' bU gu<|wT cf hc hl aY aC ((hf y hy).sub (Nat.le_refl _) d.nx) e1
    |leave aX j=>
     injection (show some [((aX,j),s2)]=some outs from h) with h;subst h
     exact⟨aX,j,s2,by simp,wT cf hc hl aY aC (hf ((aX,j),s2)<|by simp) e1⟩
  |some q=>
   obtain⟨it,o,ops,rest,k⟩:=q;obtain⟨id,me,iH,BL,ho⟩:=MC e;rw[Gw e] at h;unfold kr at h;cases e1:nX fr it s with
   |bad=>simp only[e1] at h;cases h
   |ok x s2=>
    simp only[e1] at h;obtain⟨n,ob⟩:=x;obtain⟨h1,h2⟩:=MW e1;obtain⟨hx,hg,hh,bq⟩:=eS h2;have bU:aS s2:=(U5.a9 n).bo aC.bo h2;have ht:n<top:=Nat.lt_of_lt_of_le hx aC.bo.nx;have hd:∀c,o.op≠ .defer c:=fun c q=>by rw[ho] at q;cases q
    cases ob with
    |iter m es ex left cur=>
     obtain⟨kQ,dO,u⟩:=aC.rel.iter n m es ex left cur ht hg;obtain⟨bn,N,hn,JV⟩:=u.next (P:=P) o.type;have Lf:VR ρ (.ptr<|some (n,0))<|a.eval it:=xh aC.tr aC.g h1;have BJ:a.eval it= .pointer (some ⟨bn,0,none⟩):=by simp only[VR] at Lf;obtain⟨b',N',q1,q2⟩:=Lf;rw[hn] at q1;cases q1;exact q2
     have JW:∀v w',(Instr.next (.pointer<|some ⟨bn,0,none⟩) false o.type).run P w= .ok v w'->(execOp a.eval o).run P w= .ok (.value v) w':=by intro v w' q;simp only[execOp,ho,BJ,Sem.run_bind,q,Result.andThen_ok,Sem.run_pure]
     obtain⟨_,_,_,hB⟩:=aC.rel.block ht hg hn;cases left with
     |nil=>
      have h3:=h;simp only[xF,kr] at h3;cases e3:mP P U7 fr n m es ex o ops rest k s2 with
      |bad=>simp only[e3] at h3;cases h3
      |ok aX s3=>
       simp only[e3] at h3;have pq:(Instr.next (.pointer<|some ⟨bn,0,none⟩) false o.type).run P w= .ok (.tuple #[.bool false]) w:=by
        rcases JV with⟨_,q⟩|⟨x,r,v1,v2,w',q,_⟩
        ·exact q
        ·cases q
       have fE:=(U5.mP P hl fr n m es ex o ops rest k).bo bU e3;have yV:=(U5.mP P hl fr n m es ex o ops rest k).le bU e3;obtain⟨ne,g1,_⟩:=nP P hl f aX s3 outs fE h3;obtain⟨y,hy⟩:=List.exists_mem_of_ne_nil _ ne;obtain⟨dr,dw,d⟩:=g1 y hy;refine C5 (fun _ hy=>hy) h3 fE (by omega) ?_;unfold mP at e3;obtain⟨u1,s4,i1,i2⟩:=M.aL e3;obtain⟨u2,s5,i3,i4⟩:=M.aL i2;obtain⟨t1,s6,i5,i6⟩:=M.aL i4;obtain⟨t2,s7,i7,i8⟩:=M.aL i6;obtain⟨rfl,rfl⟩:=aQ i8;obtain⟨i9,rfl⟩:=dt i5;obtain⟨_,_,_,j1,j2⟩:=hY i1;obtain⟨_,_,_,j3,j4⟩:=hY i3;have Fl:aS s6:=(U5.ba m _).bo ((U5.ba n _).bo bU i1) i3;have Ey:Rel B ρ s6.h w:=by rw[j3,j1,hh];exact aC.rel.Sx ht hg
       have Fm:VR ρ (.tuple [.bool false])<|.tuple #[.bool false]:=by simp only[VR,av];exact⟨_,rfl,_,_,rfl,rfl,rfl⟩
       obtain⟨q1,q2⟩:=z5 (a:=a) aC.tr aC.nt i9 Fm;exact GM hc hl aY me iH BL hd (JW _ _ pq) (bp.refl _ _) ⟨q1,Ey,aC.g,aC.nt,Fl⟩ (by rw[j4,j2,bq]) (by rw[j4,j2,bq];exact(hf y hy).sub (Nat.le_refl _) d.nx) i7
     |cons y0 ys=>
      have h3:=h;simp only[xF] at h3;rcases JV with⟨q,_⟩|⟨x,r,v1,v2,w',fw,TG,tR,pq,BM,Sz,TH⟩
      ·cases q
      ·obtain⟨qG,h4,ye⟩:=GN h3 (x,r) fw;unfold D5 kr at h4;cases e3:m9 P U7 fr n (.iter m es ex r<|some x) o ops rest k (.tuple [.bool true,x.1,x.2]) s2 with
       |bad=>simp only[e3] at h4;cases h4
       |ok aX s3=>
        simp only[e3] at h4;have fE:=(U5.m9 P hl fr n (.iter m es ex r<|some x) o ops rest k<|.tuple [.bool true,x.1,x.2]).bo bU e3;have yV:=(U5.m9 P hl fr n (.iter m es ex r<|some x) o ops rest k<|.tuple [.bool true,x.1,x.2]).le bU e3;obtain⟨ne,g1,_⟩:=nP P hl f aX s3 qG fE h4;obtain⟨y,hy⟩:=List.exists_mem_of_ne_nil _ ne;obtain⟨dr,dw,d⟩:=g1 y hy;refine C5 ye h4 fE (by omega) ?_;unfold m9 at e3;obtain⟨u1,s4,i1,i2⟩:=M.aL e3;obtain⟨t1,s6,i5,i6⟩:=M.aL i2;obtain⟨t2,s7,i7,i8⟩:=M.aL i6;obtain⟨rfl,rfl⟩:=aQ i8;obtain⟨i9,rfl⟩:=dt i5;obtain⟨_,_,_,j1,j2⟩:=hY i1;have Fl:aS s6:=(U5.ba n _).bo bU i1;have Ey:Rel B ρ s6.h w':=by rw[j1,hh];exact aC.rel.Qs ht hg hn BM Sz TH
        have Fm:VR ρ (.tuple [.bool true,x.1,x.2])<|.tuple #[.bool true,v1,v2]:=by simp only[VR,av];exact⟨_,rfl,_,_,rfl,rfl,_,_,rfl,TG,_,_,rfl,tR,rfl⟩
        obtain⟨q1,q2⟩:=z5 (a:=a) aC.tr aC.nt i9 Fm;exact GM hc hl aY me iH BL hd (JW _ _ pq) (BM.below<|hB rfl) ⟨q1,Ey,aC.g,aC.nt,Fl⟩ (by rw[j2,bq]) (by rw[j2,bq];exact(hf y<|ye y hy).sub (Nat.le_refl _) d.nx) i7
    |_=>cases h
end
end Go.Rn
