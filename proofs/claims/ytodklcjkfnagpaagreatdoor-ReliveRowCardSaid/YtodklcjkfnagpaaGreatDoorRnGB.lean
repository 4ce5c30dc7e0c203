import Derived.Test.YtodklcjkfnagpaaGreatDoorRnGA
import Derived.IntWalk
import Derived.MapKept
import Derived.AtR
import Derived.Orders
import Derived.RangeFuncIn
import Derived.RangeFuncLeaves
import GoSem.Extern.MapsClone
import Derived.Maps.RangeRun
set_option maxRecDepth 100000
set_option maxHeartbeats 8000000
set_option linter.unusedSimpArgs false
set_option linter.unusedVariables false
namespace Go.Rn
open Go.RowKit
section
variable {P:Program} {B:aC} {ρ:ah} {w:World} {s s1:AS} {x:AV} {Sy:aD} {t:Tr AV} {ev:Operand->Value} {o:Oper}
def im(ρ:ah):Option AV->Option Value->Prop
 |none,v=>v=none
 |some a,v=>∃u,v=some u/\VR ρ a u
theorem BS(he:∀x v,ak t x=some v->VR ρ v (ev x)){y:Option Operand}{a:Option AV}(h:opt (ak t) y=some a):im ρ a<|y.map ev:=by
 cases y with
 |none=>simp only[opt] at h;injection h with h;subst h;rfl
 |some y=>
  simp only[opt] at h;cases e:ak t y with
  |none=>rw[e] at h;cases h
  |some v=>simp only[e] at h;injection h with h;subst h;exact⟨_,rfl,he y v e⟩
theorem u9{a:AV}{v:Value}{kf real n d:Nat}{code:BoundsCode}(ha:VR ρ a v)(h:bound (some a) kf d=some n)(hr:kf<=real):(Instr.sliceBound v real code).run P w= .ok n w/\n<=kf:=by
 unfold bound at h;cases e:intOf a with
 |none=>simp only[e] at h;cases h
 |some i=>simp only[e] at h;obtain⟨k,_,rfl⟩:=ha.tq e;obtain⟨rfl,hn⟩:=oX h;have hr:(0:Int)<=(n:Int)/\(n:Int)<=(real:Int):=⟨by omega,by omega⟩;refine⟨?_,by omega⟩;simp only[Instr.sliceBound,asIntOf,Sem.run_bind,Sem.run_pure,Result.andThen_ok,if_pos hr,Int.toNat_natCast]
theorem oY{b:Bool}{lo hi:Option AV}{gy bP:Option Value}{len low real hh l:Nat}(h1:im ρ lo gy)(h2:im ρ hi bP)(hr:low<=real)(e1:bound hi low len=some hh)(e2:bound lo hh 0=some l):
 (Instr.sliceBounds b len real gy bP none).run P w= .ok (l,hh,real) w/\(hi=none/\hh=len\/hh<=low)/\l<=hh:=by
 have g1:∃c,(match bP,(none:Option Value) with
  |some v,some _=>Instr.sliceBound v real .slice3B
  |some v,none=>Instr.sliceBound v real c
  |none,none=>pure len
  |none,some _=>stuck "Slice: max without high" :Sem Nat).run P w= .ok hh w/\c=(if b then BoundsCode.sliceAcap else .sliceAlen)/\(hi=none/\hh=len\/hh<=low):=by
  cases hi with
  |none=>
   simp only[im] at h2;subst h2;simp only[bound] at e1;injection e1 with e1;subst e1
   exact⟨_,rfl,rfl,.inl ⟨rfl,rfl⟩⟩
  |some a=>obtain⟨u,rfl,hu⟩:=h2;obtain⟨a1,a2⟩:=u9 (P:=P) (w:=w) (code:=if b then BoundsCode.sliceAcap else .sliceAlen) hu e1 hr;exact⟨_,a1,rfl,.inr a2⟩
 obtain⟨c,g1,rfl,g2⟩:=g1;have g3:(match gy with
  |some v=>Instr.sliceBound v hh (if(none:Option Value).isSome then BoundsCode.slice3C else .sliceB)
  |none=>pure 0:Sem Nat).run P w= .ok l w/\l<=hh:=by
  cases lo with
  |none=>
   simp only[im] at h1;subst h1;simp only[bound] at e2;injection e2 with e2;subst e2
   exact⟨rfl,Nat.zero_le _⟩
  |some a=>obtain⟨u,rfl,hu⟩:=h1;exact u9 (P:=P) (w:=w) hu e2<|Nat.le_refl _
 refine⟨?_,g2,g3.2⟩;cases bP<;>cases gy<;>simp_all [Instr.sliceBounds]
theorem EW{b:Bool}{lo:Option AV}{gy bP rT:Option Value}{len low real hh l m:Nat}{a c:AV}(h1:im ρ lo gy)(h2:im ρ (some a) bP)(h3:im ρ (some c) rT)(hr:low<=real)(e0:bound (some c) low 0=some m)(e1:bound (some a) m 0=some hh)(e2:bound lo hh 0=some l):
 (Instr.sliceBounds b len real gy bP rT).run P w= .ok (l,hh,m) w/\l<=hh/\hh<=m/\m<=low:=by
 obtain⟨u,rfl,hu⟩:=h2;obtain⟨v,rfl,hv⟩:=h3;have q0:=fun code=>u9 (P:=P) (w:=w) (code:=code) hv e0 hr;have q1:=fun code=>u9 (P:=P) (w:=w) (code:=code) hu e1<|Nat.le_refl _;cases lo with
 |none=>
  simp only[im] at h1;subst h1;simp only[bound] at e2;injection e2 with e2;subst e2
  refine⟨?_,Nat.zero_le _,(q1 .slice3B).2,(q0 .slice3B).2⟩;simp[Instr.sliceBounds,(q0 _).1,(q1 _).1]
 |some y=>obtain⟨z,rfl,hz⟩:=h1;have q2:=fun code=>u9 (P:=P) (w:=w) (code:=code) hz e2<|Nat.le_refl _;refine⟨?_,(q2 .slice3B).2,(q1 .slice3B).2,(q0 .slice3B).2⟩;simp[Instr.sliceBounds,(q0 _).1,(q1 _).1,(q2 _).1]
theorem Ay{ty e:TypeId}{v:Value}{lo hi mx:Option Value}(h:P.underlying ty=some (.slice e)):(Instr.sliceAt ty v lo hi mx).run P w=(Instr.slice ty v lo hi mx).run P w:=by simp[Instr.sliceAt,aR h]
theorem JG{ty:TypeId}{v:Value}{lo hi mx:Option Value}(h:P.underlying ty=some .string):(Instr.sliceAt ty v lo hi mx).run P w=(Instr.slice ty v lo hi mx).run P w:=by simp[Instr.sliceAt,aR h]
theorem Kd{ty : TypeId}{a:AV}{v:Value}{lo hi mx:Option AV}{gy bP rT:Option Value}(ha:VR ρ a v)(h1:im ρ lo gy)(h2:im ρ hi bP)(h3:im ρ mx rT)(h:kG P ty a lo hi mx=some x):
    ∃q,(Instr.sliceAt ty v gy bP rT).run P w= .ok q w/\VR ρ x q:=by
  unfold kG at h
  split at h<;>first|(cases h;done)|skip
  · 
    rename_i st e1
    simp only[VR] at ha;subst ha
    cases mx with
    |some _=>cases h
    | none=>
      simp only[im] at h3;subst h3
      simp only[] at h
      cases e2:bound hi st.size st.size with
      |none=>simp only[e2] at h;cases h
      | some hh=>
        simp only[e2] at h
        cases e3:bound lo hh 0 with
        |none=>simp only[e3] at h;cases h
        | some l=>
          simp only[e3] at h;injection h with h;subst h
          obtain⟨g1,g2,g3⟩:=oY (P:=P) (w:=w) (b:=false) h1 h2 (Nat.le_refl _) e2 e3
          refine⟨.string<|st.extract l hh,?_,by simp[VR]⟩
          rw[JG e1]
          simp[Instr.slice,aR e1,g1]
  · 
    rename_i e p len cap e1
    cases ek:bW P e with
    |none=>simp only[ek] at h;cases h
    | some k=>
      simp only[ek] at h
      rw[Ay e1]
      have hv:∃q real,v= .slice q len real/\eG len cap<=real/\len<=real\/∃q real,v= .slice q len real/\cap= .known real:=by
        cases p with
        |none=>obtain⟨rfl,rfl,rfl⟩:=fJ ha;exact⟨none,0,.inr ⟨none,0,rfl,rfl⟩⟩
        | some p=>
          obtain⟨n,i⟩:=p
          cases cap with
          |known c=>simp only[VR] at ha;obtain⟨b,N,_,rfl⟩:=ha;exact⟨none,0,.inr ⟨_,c,rfl,rfl⟩⟩
          |bA b0 e0=>simp only[VR] at ha;obtain⟨b,N,c,_,rfl,h5,h6,_⟩:=ha;exact⟨_,c,.inl ⟨rfl,h5,h6⟩⟩
          |lost=>simp only[VR] at ha;obtain⟨rfl,b,N,_,c,_,rfl⟩:=ha;exact⟨_,c,.inl ⟨rfl,by simp[eG],Nat.zero_le _⟩⟩
      clear hv
      cases mx with
      | some mx =>
        simp only[] at h
        have hl:cap≠ .lost:=by intro e2;subst e2;cases h
        have h':slice3 k p (eG len cap) lo hi mx=some x:=by
          cases cap<;>first|exact h|exact absurd rfl hl
        clear h
        unfold slice3 at h'
        cases e2:bound (some mx) (eG len cap) 0 with
        |none=>simp only[e2] at h';cases h'
        | some m=>
          simp only[e2] at h'
          cases hi with
          |none=>cases h'
          | some hi =>
            simp only[] at h'
            cases e3:bound (some hi) m 0 with
            |none=>simp only[e3] at h';cases h'
            | some hh=>
              simp only[e3] at h'
              cases e4:bound lo hh 0 with
              |none=>simp only[e4] at h';cases h'
              | some l=>
                simp only[e4] at h'
                cases p with
                | none=>
                  obtain⟨rfl,rfl,rfl⟩:=fJ ha
                  simp only[] at h';injection h' with h';subst h'
                  obtain⟨g1,g2,g3,g4⟩:=EW (P:=P) (w:=w) (b:=true) (len:=0) (real:=0) h1 h2 h3 (Nat.le_refl _) e2 e3 e4
                  have SU:m<=0:=g4
                  refine⟨.slice none 0 0,?_,?_⟩
                  · have z1:m=0:=by omega
                    have z2:hh=0:=by omega
                    have z3:l=0:=by omega
                    subst z1;subst z2;subst z3
                    simp[Instr.slice,aR e1,g1,cP ek]
                  · have z1:hh - l=0:=by omega
                    have z2:m - l=0:=by omega
                    rw[z1,z2];simp[VR]
                | some p=>
                  obtain⟨n,i⟩:=p
                  simp only[] at h'
                  have hv:∃b N real,ρ n=some (b,N)/\v= .slice (some ⟨b,i,none⟩) len real/\eG len cap<=real:=by
                    cases cap with
                    |known c=>simp only[VR] at ha;obtain⟨b,N,e5,rfl⟩:=ha;exact⟨b,N,c,e5,rfl,by simp[eG]⟩
                    |bA b0 e0=>simp only[VR] at ha;obtain⟨b,N,c,e5,rfl,h5,h6,_⟩:=ha;exact⟨b,N,c,e5,rfl,h5⟩
                    |lost=>exact absurd rfl hl
                  obtain⟨b,N,real,e5,rfl,OZ⟩:=hv
                  obtain⟨g1,g2,g3,g4⟩:=EW (P:=P) (w:=w) (b:=true) (len:=len) h1 h2 h3 OZ e2 e3 e4
                  cases e6:Nat.beq m l with
                  | true=>
                    simp only[e6] at h';injection h' with h';subst h'
                    have rU:=cj.1 e6
                    refine⟨.slice (some ⟨b,i,none⟩) (hh - l)<|m - l,?_,by simp only[VR];exact⟨b,N,e5,rfl⟩⟩
                    subst rU;simp[Instr.slice,aR e1,g1,cP ek]
                  | false=>
                    simp only[e6] at h';injection h' with h';subst h'
                    have bO:¬m=l:=by rw[←beq_eq,e6];simp
                    refine⟨.slice (some ⟨b,i+l*k,none⟩) (hh - l)<|m - l,?_,by simp only[VR];exact⟨b,N,e5,rfl⟩⟩
                    simp[Instr.slice,aR e1,g1,cP ek,bO,Addr.hQ]
      | none=>
        simp only[im] at h3;subst h3
        simp only[] at h
        cases e3:bound hi (eG len cap) len with
        |none=>simp only[e3] at h;cases h
        | some hh =>
          simp only[e3] at h
          cases e4:bound lo hh 0 with
          |none=>simp only[e4] at h;cases h
          | some l=>
            simp only[e4] at h
            cases p with
            | none=>
              obtain⟨rfl,rfl,rfl⟩:=fJ ha
              simp only[] at h;injection h with h;subst h
              obtain⟨g1,g2,g3⟩:=oY (P:=P) (w:=w) (b:=true) (len:=0) (real:=0) h1 h2 (Nat.le_refl _) e3 e4
              have z1:hh=0:=by rcases g2 with⟨_,e⟩|e<;>omega
              have z2:l=0:=by omega
              subst z1;subst z2
              refine⟨.slice none 0 0,?_,by simp[VR]⟩
              simp[Instr.slice,aR e1,g1,cP ek]
            | some p=>
              obtain⟨n,i⟩:=p
              cases cap with
              | known c=>
                simp only[] at h
                simp only[VR] at ha;obtain⟨b,N,e5,rfl⟩:=ha
                obtain⟨g1,g2,g3⟩:=oY (P:=P) (w:=w) (b:=true) (len:=len) (real:=c) h1 h2 (by simp[eG]) e3 e4
                cases e6:Nat.beq c l with
                | true=>
                  simp only[e6] at h;injection h with h;subst h
                  have rU:=cj.1 e6
                  refine⟨.slice (some ⟨b,i,none⟩) (hh - l)<|c - l,?_,by simp only[VR];exact⟨b,N,e5,rfl⟩⟩
                  subst rU;simp[Instr.slice,aR e1,g1,cP ek]
                | false=>
                  simp only[e6] at h;injection h with h;subst h
                  have bO:¬c=l:=by rw[←beq_eq,e6];simp
                  refine⟨.slice (some ⟨b,i+l*k,none⟩) (hh - l)<|c - l,?_,by simp only[VR];exact⟨b,N,e5,rfl⟩⟩
                  simp[Instr.slice,aR e1,g1,cP ek,bO,Addr.hQ]
              | bA b0 e0=>
                simp only[] at h
                simp only[VR] at ha;obtain⟨b,N,c,e5,rfl,h5,h6,h7⟩:=ha
                obtain⟨g1,g2,g3⟩:=oY (P:=P) (w:=w) (b:=true) (len:=len) (real:=c) h1 h2 h5 e3 e4
                have QN:hh<=c:=by
                  rcases g2 with⟨_,e⟩|e
                  · omega
                  · have e':hh<=b0:=e
                    omega
                cases e6:Nat.beq l 0 with
                | true=>
                  simp only[e6] at h;injection h with h;subst h
                  have rU:=cj.1 e6
                  refine⟨.slice (some ⟨b,i,none⟩) (hh - l)<|c - 0,?_,?_⟩
                  · subst rU;by_cases q:c=0
                    · subst q;simp[Instr.slice,aR e1,g1,cP ek]
                    · simp[Instr.slice,aR e1,g1,cP ek,q,Addr.hQ]
                  · simp only[VR];exact⟨b,N,c,e5,rfl,h5,by omega,h7⟩
                | false =>
                  simp only[e6] at h
                  cases e7:(Nat.beq e0 k&&Nat.blt l b0) with
                  | true=>
                    simp only[e7] at h;injection h with h;subst h
                    obtain⟨q1,q2⟩:=and_true.1 e7
                    have q1:=cj.1 q1;subst q1
                    rw[blt_eq] at q2
                    have bO:¬c=l:=by omega
                    refine⟨.slice (some ⟨b,i+l*e0,none⟩) (hh - l)<|c - l,?_,?_⟩
                    · simp[Instr.slice,aR e1,g1,cP ek,bO,Addr.hQ]
                    · simp only[VR]
                      refine⟨b,N,c - l,e5,rfl,by omega,by omega,?_⟩
                      have:l*e0+(c - l)*e0=c*e0:=by rw[←Nat.add_mul];congr 1;omega
                      omega
                  | false=>
                    simp only[e7] at h
                    cases e8:Nat.beq (hh - l) 0 with
                    |false=>simp only[e8] at h;cases h
                    | true=>
                      simp only[e8] at h;injection h with h;subst h
                      have z:=cj.1 e8
                      by_cases q:c=l
                      · refine⟨.slice (some ⟨b,i,none⟩) (hh - l)<|c - l,?_,?_⟩
                        · subst q;simp[Instr.slice,aR e1,g1,cP ek]
                        · simp only[VR];rw[z];exact⟨by first|rfl|trivial,b,N,_,_,e5,rfl⟩
                      · refine⟨.slice (some ⟨b,i+l*k,none⟩) (hh - l)<|c - l,?_,?_⟩
                        · simp[Instr.slice,aR e1,g1,cP ek,q,Addr.hQ]
                        · simp only[VR];rw[z];exact⟨by first|rfl|trivial,b,N,_,_,e5,rfl⟩
              | lost=>
                simp only[] at h
                simp only[VR] at ha;obtain⟨rfl,b,N,j,c,e5,rfl⟩:=ha
                obtain⟨g1,g2,g3⟩:=oY (P:=P) (w:=w) (b:=true) (len:=0) (real:=c) h1 h2 (by simp[eG]) e3 e4
                cases e6:Nat.beq hh 0 with
                |false=>simp only[e6] at h;cases h
                | true=>
                  simp only[e6] at h;injection h with h;subst h
                  have z:=cj.1 e6;subst z
                  have z:l=0:=by omega
                  subst z
                  refine⟨.slice (some ⟨b,j,none⟩) 0 c,?_,?_⟩
                  · by_cases q:c=0
                    · subst q;simp[Instr.slice,aR e1,g1,cP ek]
                    · simp[Instr.slice,aR e1,g1,cP ek,q,Addr.hQ]
                  · simp only[VR];exact⟨trivial,b,N,_,_,e5,rfl⟩
  · -- a row that stays as it is
    rename_i e n i len e1
    cases ek:bW P e with
    |none=>simp only[ek] at h;cases h
    | some k=>
      simp only[ek] at h
      cases mx with
      |some _=>cases h
      | none=>
        simp only[im] at h3;subst h3
        simp only[] at h
        cases e3:bound hi len len with
        |none=>simp only[e3] at h;cases h
        | some hh =>
          simp only[e3] at h
          cases e4:bound lo hh 0 with
          |none=>simp only[e4] at h;cases h
          | some l=>
            simp only[e4] at h
            cases e5:Nat.ble top n with
            |false=>simp only[e5] at h;cases h
            | true=>
              simp only[e5] at h;injection h with h;subst h
              have q1:=aL.1 e5
              simp only[VR] at ha
              rcases ha with⟨_,rfl,a0,c,rfl,hz⟩|⟨b,sh,c,e6,rfl,e7⟩
              · obtain⟨g1,g2,g3⟩:=oY (P:=P) (w:=w) (b:=true) (len:=0) (real:=c) h1 h2 (Nat.zero_le c) e3 e4
                have zh:hh=0:=by rcases g2 with⟨_,e⟩|e<;>omega
                subst zh
                have zl:l=0:=by omega
                subst zl
                rw[Ay e1]
                cases a0 with
                |none=>exact⟨.slice none 0 c,by simp[Instr.slice,aR e1,g1,cP ek],by simp only[VR];exact .inl ⟨q1,trivial,none,c,rfl,hz⟩⟩
                | some a0=>
                  by_cases q:c=0
                  · subst q
                    exact⟨.slice (some a0) 0 0,by simp[Instr.slice,aR e1,g1,cP ek],by simp only[VR];exact .inl ⟨q1,trivial,some a0,0,rfl,hz⟩⟩
                  · exact⟨.slice (some<|a0.add 0) 0 c,by simp[Instr.slice,aR e1,g1,cP ek,q],by simp only[VR];exact .inl ⟨q1,trivial,_,c,rfl,(fun e=>by cases e),(fun e=>by cases hz.2.1 e),fun _ e=>by cases e⟩⟩
              have hc:=(e7 q1).1
              obtain⟨g1,g2,g3⟩:=oY (P:=P) (w:=w) (b:=true) (len:=len) (real:=c) h1 h2 hc e3 e4
              have QN:hh<=c:=by rcases g2 with⟨_,e⟩|e<;>omega
              rw[Ay e1]
              by_cases q:c=l
              · subst q
                refine⟨.slice (some ⟨b,sh+i,none⟩) (hh - c)<|c - c,by simp[Instr.slice,aR e1,g1,cP ek],?_⟩
                have z:hh - c=0:=by omega
                simp only[VR]
                exact .inl ⟨q1,z,some ⟨b,sh+i,none⟩,c - c,by rw[z],(fun e=>by cases e),(fun e=>absurd e (e7 q1).2),fun _ e=>by cases e⟩
              · refine⟨.slice (some ⟨b,sh+(i+l*k),none⟩) (hh - l)<|c - l,by simp[Instr.slice,aR e1,g1,cP ek,q,Addr.hQ,Nat.add_assoc],?_⟩
                simp only[VR]
                exact .inr ⟨b,sh,c - l,e6,rfl,fun _=>⟨by omega,(e7 q1).2⟩⟩
  · -- an array,by its address
    rename_i len e n i e1
    cases ek:bW P e with
    |none=>simp only[ek] at h;cases h
    | some k=>
      simp only[ek] at h
      cases mx with
      |some _=>cases h
      | none=>
        simp only[im] at h3;subst h3
        simp only[] at h
        cases e2:bound hi len len with
        |none=>simp only[e2] at h;cases h
        | some hh=>
          simp only[e2] at h
          cases e3:bound lo hh 0 with
          |none=>simp only[e3] at h;cases h
          | some l=>
            simp only[e3] at h
            simp only[VR] at ha;obtain⟨b,N,e5,rfl⟩:=ha
            obtain⟨g1,g2,g3⟩:=oY (P:=P) (w:=w) (b:=false) h1 h2 (Nat.le_refl _) e2 e3
            cases e6:Nat.beq len l with
            | true=>
              simp only[e6] at h;injection h with h;subst h
              have rU:=cj.1 e6
              refine⟨.slice (some ⟨b,i,none⟩) (hh - l)<|len - l,?_,by simp only[VR];exact⟨b,N,e5,rfl⟩⟩
              subst rU;simp[Instr.sliceAt,aR e1,Instr.sureAddr,g1,cP ek]
            | false=>
              simp only[e6] at h;injection h with h;subst h
              have bO:¬len=l:=by rw[←beq_eq,e6];simp
              refine⟨.slice (some ⟨b,i+l*k,none⟩) (hh - l)<|len - l,?_,by simp only[VR];exact⟨b,N,e5,rfl⟩⟩
              simp[Instr.sliceAt,aR e1,Instr.sureAddr,g1,cP ek,bO,Addr.hQ]
theorem KZ{ty:TypeId}{y:Operand}{lo hi mx:Option Operand}(he:∀x v,ak t x=some v->VR ρ v (ev x))(r:Rel B ρ s.h w)(h:jX P ty y lo hi mx Sy t s= .ok x s1)(ho:o.op= .slice ty y lo hi mx):cU P B ρ s s1 w x<|execOp ev o:=by unfold jX at h;obtain⟨a,h1,h2⟩:=aX h;obtain⟨gy,h3,h4⟩:=aX h2;obtain⟨bP,h5,h6⟩:=aX h4;obtain⟨rT,h7,h8⟩:=aX h6;obtain⟨h9,rfl⟩:=de h8;obtain⟨q,g1,g2⟩:=Kd (P:=P) (w:=w) (he y a h1) (BS he h3) (BS he h5) (BS he h7) h9;exact⟨ρ,w,.value q,Ext.refl _ _ _,by simp[execOp,ho,g1],g2,r,bh.refl _ _⟩
end
end Go.Rn
namespace Go.Rn
open Go.RowKit
theorem Rel.HB{B:aC}{ρ:ah}{h:Tr U}{w w':World}(r:Rel B ρ h w){n:Nat}{p:U}{b N:Nat}(ht:n<top)(hg:h.get n=some p)(hp:p.plain=true)(bY:p.bN=false)(hr:ρ n=some (b,N))(hw:nX b w w'):
 Rel B ρ (h.put n none) w'/\∀m q,m<top->(h.put n none).get m=some q->∀M,ρ m≠some (b,M):=by
 have g:∀m,m<top->(h.put n none).get m=if m=n then none else h.get m:=fun m hm=>Tr.cJ _ _ _ _ ht hm
 have gV:∀m q,m<top->(h.put n none).get m=some q->∀M,ρ m≠some (b,M):=by
  intro m q hm hq M e;rw[g m hm] at hq;by_cases e2:m=n
  ·rw[if_pos e2] at hq;cases hq
  ·rw[if_neg e2] at hq;exact e2<|r.one m n q p b M N hm ht hq hg (.inr bY) e hr
 refine⟨?_,gV⟩;have hl:h.get n≠some .ep:=by intro e;rw[hg] at e;cases e;simp[U.plain] at hp
 have r2:=r.drop ht hl;refine⟨?_,r2.one,?_,by rw[hw.size];exact r.size,r2.lone,r.fz.of (ah.le_refl _) (fun b1 _ hn=>hw.block b1 fun e=>hn n p N ht hg bY (by rw[e];exact hr)) (fun b1 _ hn=>hn.sub fun m q hm hq da=>by
  rw[g m hm] at hq;by_cases e:m=n
  ·rw[if_pos e] at hq;cases hq
  ·rw[if_neg e] at hq;exact⟨q,hq,da⟩),r.tk.of (ah.le_refl _) (fun m q hm hq _=>by
  rw[g m hm] at hq;by_cases e:m=n
  ·rw[if_pos e] at hq;cases hq
  ·rw[if_neg e] at hq;exact hq) (by rw[hw.size];exact Nat.le_refl _) (fun b1 _ hn=>hw.block b1 fun e=>hn n p N ht hg bY (by rw[e];exact hr)) (fun b1 _ hn=>hn.sub fun m q hm hq da=>by
  rw[g m hm] at hq;by_cases e:m=n
  ·rw[if_pos e] at hq;cases hq
  ·rw[if_neg e] at hq;exact⟨q,hq,da⟩) fun _ _ _ _ _ e=>e⟩
 ·intro m q hm hq;obtain⟨b1,N1,o1,h1,h2,h3,h4⟩:=r2.is m q hm hq;exact⟨b1,N1,o1,h1,(hw.block b1 fun e=>gV m q hm hq N1<|by rw[h1,e]).trans h2,h3,h4⟩
 ·intro i m es ex left cur hi hq;obtain⟨hm,dy,u⟩:=r2.iter i m es ex left cur hi hq;exact⟨hm,dy,u.l9 hw.block (gV i _ hi hq)<|gV m _ hm dy⟩
section
variable {P:Program} {B:aC} {ρ:ah} {w:World} {s s1:AS} {x:AV} {Sy:aD} {t:Tr AV} {ev:Operand->Value} {o:Oper}
theorem Fm{n:Nat}(h:n<2 ^ 63):IntKind.i64.wrap (n:Int)=n:=by exact IntWalk.i64_in _ (by omega)
theorem JM{ty:TypeId}{l c:AV}{vl vc:Value}(hl:VR ρ l vl)(hc:VR ρ c vc)(r:Rel B ρ s.h w)(hf:bH s.nx s1.nx ρ)(h:makeSlice P ty l c s= .ok x s1):dT P B ρ s s1 w x<|Instr.makeSlice ty vl vc:=by
 unfold makeSlice at h;cases e1:P.underlying ty with
 |none=>simp only[e1] at h;cases h
 |some d=>
  cases d<;>simp only[e1] at h<;>first|(cases h;done)|skip
  rename_i e;obtain⟨il,h1,h⟩:=aX h;obtain⟨ic,h2,h⟩:=aX h;obtain⟨i,h3,h⟩:=aX h;obtain⟨nc,h4,h⟩:=aX h;obtain⟨nl,h5,h⟩:=aX h;obtain⟨z,h6,h⟩:=aX h;obtain⟨h7,h⟩:=bM h;obtain⟨n,s2,h8,h9⟩:=M.aI h;obtain⟨rfl,rfl⟩:=aM h9;obtain⟨q1,q2⟩:=and_true.1 h7;obtain⟨q3,q4⟩:=and_true.1 q2;obtain⟨q5,q6⟩:=and_true.1 q4;have q1:=aL.1 q1;have q3:=aL.1 q3;obtain⟨k1,_,rfl⟩:=hl.tq h1;obtain⟨k2,_,rfl⟩:=hc.tq h2;obtain⟨rfl,oH⟩:=oX h4;obtain⟨rfl,jH⟩:=oX h5;unfold room at oH q1;obtain⟨vz,g1,g2⟩:=qh (P:=P) (w:=w) ρ h6;obtain⟨ht,rfl,rfl⟩:=jQ h8;have dR:ρ s.nx=none:=hf s.nx (Nat.le_refl _) (Nat.lt_succ_self _) (by omega);have hz:=g2.cells.length;simp only[Array.length_toList] at hz;have pj:(Array.range<|nc*i.size).map (fun j=>(if nc*i.size=0 then(#[]:Array Value) else vz.cells)[j % (if nc*i.size=0 then(#[]:Array Value) else vz.cells).size]!)=(Array.range<|nc*i.size).map (fun j=>vz.cells[j % vz.cells.size]!):=by
   by_cases q:nc*i.size=0
   ·rw[q];simp
   ·simp only[if_neg q]
  refine⟨dM ρ s.nx (w.heap.size,nc*i.size),{w with heap:=w.heap.push<|.cells ((Array.range<|nc*i.size).map fun j=>vz.cells[j % vz.cells.size]!) e},.slice (some ⟨w.heap.size,0,none⟩) nl nc,Ext.lq dR,?_,?_,?_,(dj.alloc w _).below r.size⟩
  ·have w1:IntKind.i64.wrap (nl:Int)=nl:=Fm (by omega);have w2:IntKind.i64.wrap (nc:Int)=nc:=Fm (by omega);have t1:(decide ((nc:Int)<0)||decide ((i.bytes:Int)*(nc:Int)>2 ^ 48))=false:=by
    have:¬((nc:Int)<0):=by omega
    have h2:¬((i.bytes:Int)*(nc:Int)>2 ^ 48):=by
     have:(i.bytes:Int)*(nc:Int)=((nc*i.bytes:Nat):Int):=by rw[Nat.mul_comm];simp
     rw[this];omega
    rw[decide_eq_false this,decide_eq_false h2];rfl
   have t2:¬((nl:Int)<0):=by omega
   have t3:¬((nl:Int)>(nc:Int)):=by omega
   simp only[Instr.makeSlice,Sem.run_bind,aR e1,Result.andThen_ok,asInt,asIntOf,Sem.run_pure,lE h3,w1,w2];have SH:¬(((decide ((nc:Int)<0)||decide ((i.bytes:Int)*(nc:Int)>2 ^ 48))=true)\/((nl:Int)<0)\/((nl:Int)>(nc:Int))):=by
    rw[t1];rintro (e|e|e)
    ·cases e
    ·exact t2 e
    ·exact t3 e
   have N3:((decide ((nc:Int)<0)||decide ((i.bytes:Int)*(nc:Int)>2 ^ 48))||decide ((nl:Int)<0)||decide ((nl:Int)>(nc:Int)))=false:=by rw[t1];simp[t2,t3]
   simp only[N3,Bool.false_eq_true,if_false,Sem.run_bind,run_askRoom,Result.andThen_ok,Int.toNat_natCast,cP (show bW P e=some i.size by simp[bW,h3])];by_cases q:nc*i.size=0
   ·simp only[if_pos q] at pj ⊢;simp only[Sem.run_bind,Sem.run_pure,Result.andThen_ok,pj];rfl
   ·simp only[if_neg q] at pj ⊢;simp only[Sem.run_bind,g1,Sem.run_pure,Result.andThen_ok];rfl
  ·simp only[VR];exact⟨_,_,eQ _ _ _,rfl⟩
  ·refine r.new ht dR rfl ⟨_,e,rfl,by simp,Nat.le_refl _,fun j hj=>?_⟩;have O0:0<z.cells.length:=by
    rcases Nat.eq_zero_or_pos z.cells.length with h0|h0
    ·rw[h0] at q5;have:Nat.beq (nc*i.size) 0=true:=by
      cases hb:Nat.beq (nc*i.size) 0 with
      |true=>rfl
      |false=>rw[hb] at q5;simp at q5
     have:=cj.1 this;omega
    ·exact h0
   have hm:j % z.cells.length<z.cells.length:=Nat.mod_lt _ O0;obtain⟨a,ha⟩:∃a,z.cells[j % z.cells.length]? =some a:=⟨_,List.getElem?_eq_getElem hm⟩;obtain⟨v,hv,hr⟩:=g2.cells.get _ a ha;refine⟨a,v,?_,List.all_eq_true.1 q6 a<|List.mem_of_getElem? ha,?_,hr.mono<|kJ dR⟩
   ·unfold cellAt;rw[Tr.get_nil];exact ha
   ·have mn:j % vz.cells.size<vz.cells.size:=by rw[←hz];exact hm
    have jG:vz.cells[j % vz.cells.size]? =some v:=by rw[←hz];simpa using hv
    simp only[Array.getElem?_map,Array.getElem?_range,if_pos hj,Option.map_some];rw[getElem!_pos vz.cells _ mn];rw[Array.getElem?_eq_getElem mn] at jG;injection jG with jG;rw[jG]
theorem JH{ty:TypeId}{l c:Operand}(he:∀x v,ak t x=some v->VR ρ v (ev x))(r:Rel B ρ s.h w)(hf:bH s.nx s1.nx ρ)(h:nJ P ty l c Sy t s= .ok x s1)(ho:o.op= .makeSlice ty l c):cU P B ρ s s1 w x<|execOp ev o:=by unfold nJ at h;obtain⟨a,h1,h2⟩:=aX h;obtain⟨b,h3,h4⟩:=aX h2;have:=(JM (P:=P) (he l a h1) (he c b h3) r hf h4).op;simpa only[execOp,ho] using this
theorem xX{size n:Nat}{a:AV}{v:Value}{l:List AV}(ha:VR ρ a v)(fi:aO s)(r:Rel B ρ s.h w)(h:firstCells size n a s= .ok l s1):
 s1.h=s.h/\s1.nx=s.nx/\∃arr:Array Value,(Builtin.firstCells size n v).run P w= .ok arr w/\aq ρ l arr.toList:=by
 cases a with
 |slice p len cap=>
  cases p with
  |none=>
   have h':(M.pure []:M<|List AV) s= .ok l s1:=by cases len<;>cases cap<;>exact h
   obtain⟨rfl,rfl⟩:=aM h';obtain⟨rfl,rfl,rfl⟩:=fJ ha;exact⟨rfl,rfl, #[],rfl,by simp[aq]⟩
  |some p=>
   obtain⟨m,i⟩:=p;by_cases hc:cap= .lost
   ·subst hc;simp only[VR] at ha;obtain⟨rfl,b,N,q,c,e,rfl⟩:=ha;obtain⟨h1,h2⟩:=bM (show(ay (Nat.beq n 0) <| (M.pure []:M<|List AV)) s= .ok l s1 from h);obtain⟨rfl,rfl⟩:=aM h2;have:=cj.1 h1;subst this;refine⟨rfl,rfl, #[],?_,by simp[aq]⟩;simp[Builtin.firstCells,loadCells,loadCellsFrom]
   ·rw[sK hc] at h;have:∃b N c,ρ m=some (b,N)/\v= .slice (some ⟨b,i,none⟩) len c:=by
     cases cap with
     |known c=>simp only[VR] at ha;obtain⟨b,N,e,rfl⟩:=ha;exact⟨b,N,c,e,rfl⟩
     |bA lo e0=>simp only[VR] at ha;obtain⟨b,N,c,e,rfl,_⟩:=ha;exact⟨b,N,c,e,rfl⟩
     |lost=>exact absurd rfl hc
    obtain⟨b,N,c,e,rfl⟩:=this;obtain⟨a1,a2,a3,a4,vs,a5,a6,_⟩:=mG (P:=P) fi r h e;exact⟨a1,a2,vs.toArray,by simpa[Builtin.firstCells] using a5,by simpa using a6⟩
 |str q=>
  have h':(M.pure ((yq q).take n):M<|List AV) s= .ok l s1:=h;obtain⟨rfl,rfl⟩:=aM h';simp only[VR] at ha;subst ha;refine⟨rfl,rfl,(q.extract 0 n).data.map fun b=>.int .u8 b.toNat,rfl,?_⟩;refine aq.B9 _ _ ?_ fun i a b ha hb=>?_
  ·simp[yq,ByteArray.data_extract]
  ·obtain⟨⟨bs⟩⟩:=q;simp only[yq] at ha;rw[←List.map_take,List.getElem?_map] at ha;have eD:((bs.take n).map fun b=>Value.int .u8 b.toNat)[i]? =some b:=by
    have e:((ByteArray.extract ⟨⟨bs⟩⟩ 0 n).data.map fun b=>Value.int .u8 b.toNat).toList=(bs.take n).map fun b=>Value.int .u8 b.toNat:=by simp[ByteArray.data_extract,List.extract]
    rw[←e];exact hb
   rw[List.getElem?_map] at eD;cases hq:(bs.take n)[i]? with
   |none=>rw[hq] at eD;cases eD
   |some y=>rw[hq] at ha eD;simp only[Option.map_some,Option.some.injEq] at ha eD;rw[←ha, ←eD];simp[VR]
 |_=>cases h
theorem FN{a:AV}{v:Value}{n:Nat}(ha:VR ρ a v)(h:lenOf a=some n):(Builtin.lenOf v).run P w= .ok n w:=by
 cases a with
 |slice p len cap=>
  simp only[lenOf] at h;injection h with h;subst h
  cases p with
  |none=>obtain⟨rfl,rfl,rfl⟩:=fJ ha;rfl
  |some p=>obtain⟨m,i⟩:=p;obtain⟨_,_,_,_,_,rfl⟩:=mI ha;rfl
 |str q=>simp only[lenOf] at h;injection h with h;subst h;simp only[VR] at ha;subst ha;rfl
 |_=>cases h
theorem FO(gS:Nat):∀(k c:Nat),c<=gS->Builtin.growBy gS k c<=gS+gS+800
 |0,c,h=>by simp only[Builtin.growBy];omega
 |k+1,c,h=>by
  simp only[Builtin.growBy];by_cases q:c>=gS
  ·rw[if_pos q];omega
  ·rw[if_neg q];by_cases q2:c+(c+768) / 4<=gS
   ·exact FO gS k _ q2
   ·have:∀k,Builtin.growBy gS k (c+(c+768) / 4)=c+(c+768) / 4:=by
     intro k;cases k with
     |zero=>rfl
     |succ k=>simp only[Builtin.growBy];rw[if_pos<|by omega]
    rw[this];omega
theorem K0{gS bD:Nat}(h:bD<gS):Builtin.nextslicecap gS bD<=2*gS+4096:=by
 unfold Builtin.nextslicecap;split
 ·omega
 ·split
  ·omega
  ·have:=FO gS 4 bD (by omega);omega
theorem Mu{elem:TypeId}{i:TypeInfo}{sv xv:Value}{base:Option Addr}{len c n:Nat}{xt:Option TypeId}{args:Array TypeId}{sT:TypeId}{bD new:Array Value}{zv:Value}(hs:sv= .slice base len c)(hu:P.underlying sT=some (.slice elem))(oJ:args[0]? =some sT)(oK:args[1]? =xt)(hx:jk P xt=true)(hi:P.info? elem=some i)(hn:(Builtin.lenOf xv).run P w= .ok n w)(aS:c<len+n)(lZ:2*(len+n)*i.bytes+4096*i.bytes<=room)(hb:i.bytes≠0)(ho:(Builtin.firstCells i.size len sv).run P {w with drawn:=w.drawn+1}= .ok bD {w with drawn:=w.drawn+1})(hw:(Builtin.firstCells i.size n xv).run P {w with drawn:=w.drawn+1}= .ok new {w with drawn:=w.drawn+1})(hz:∀w':World,(zeroValue elem).run P w'= .ok zv w'):
    ∃ rest:List Value,∃nc,len+n<=nc/\rest.length=(nc - (len+n))*zv.cells.size/\(Builtin.append_ args 0 #[sv,xv]).run P w=
      .ok (.slice (some ⟨w.heap.size,0,none⟩) (len+n) nc) {w with heap:=w.heap.push<|.cells ((bD++new).toList++rest).toArray elem,drawn:=w.drawn+1}:=by
  subst hs
  have PM:=K0 aS
  have hmul:Builtin.nextslicecap (len+n) c*i.bytes<=2 ^ 48:=by
    have:=Nat.mul_le_mul_right i.bytes PM
    have e:(2*(len+n)+4096)*i.bytes=2*(len+n)*i.bytes+4096*i.bytes:=Nat.add_mul _ _ _
    unfold room at lZ
    omega
  have DE:∃nc,len+n<=nc/\(choose<|.appendCap (len+n) c elem).run P w= .ok nc {w with drawn:=w.drawn+1}:=by
    refine⟨len+n+w.tape w.drawn (.appendCap (len+n) c elem) % (2 ^ 63 - (len+n)),by omega,?_⟩
    rw[run_choose]
    simp[Question.forced,Question.cut]
  obtain⟨nc,PN,Ix⟩:=DE
  refine⟨(Builtin.zeroCells zv.cells<|nc - (len+n)).toList,nc,PN,by simp[Builtin.zeroCells],?_⟩
  have hle:¬(len+n<=c):=by omega
  have IW:¬(((len+n:Nat):Int)>IntKind.i64.max/\(False\/i.bytes=0)):=by
    rintro ⟨_,e|e⟩
    · cases e
    · exact hb e
  have Iy:¬(Builtin.nextslicecap (len+n) c*i.bytes>2 ^ 48):=by omega
  have dB:∀w':World,(Go.newRow elem<|bD++new++Builtin.zeroCells zv.cells (nc - (len+n))).run P w'= .ok ⟨w'.heap.size,0,none⟩ {w' with heap:=w'.heap.push<|.cells ((bD++new).toList++(Builtin.zeroCells zv.cells<|nc - (len+n)).toList).toArray elem}:=by
    intro w'
    have e:((bD++new).toList++(Builtin.zeroCells zv.cells<|nc - (len+n)).toList).toArray=bD++new++Builtin.zeroCells zv.cells (nc - (len+n)):=by
      rw[←Array.toList_append]
    rw[e];rfl
  unfold jk at hx
  cases xt with
  | none=>
    simp only[Builtin.append_,oJ,oK]
    simp only[show(#[Value.slice base len c,xv]:Array Value)[0]? =some (.slice base len c) from rfl,show(#[Value.slice base len c,xv]:Array Value)[1]? =some xv from rfl]
    simp only[Sem.run_bind,aR hu,Result.andThen_ok,cP (show bW P elem=some i.size by simp[bW,hi]),Sem.run_pure,Bool.false_eq_true,if_false,hn,if_neg hle,lE hi]
    rw[if_neg IW]
    simp only[Sem.run_bind,lE hi,Result.andThen_ok]
    rw[if_neg Iy]
    simp only[Sem.run_bind,Ix,Result.andThen_ok,lE hi,run_askRoom,ho,Bool.not_false,if_true,hw,hz,dB,Sem.run_pure]
  | some q =>
    simp only at hx
    cases e:P.underlying q with
    |none=>rw[e] at hx;cases hx
    | some d=>
      rw[e] at hx
      cases d<;>first
        |(cases hx;done)
        | (simp only[Builtin.append_,oJ,oK]
           simp only[show(#[Value.slice base len c,xv]:Array Value)[0]? =some (.slice base len c) from rfl,show(#[Value.slice base len c,xv]:Array Value)[1]? =some xv from rfl]
           simp only[Sem.run_bind,aR hu,Result.andThen_ok,cP (show bW P elem=some i.size by simp[bW,hi]),Sem.run_pure,aR e,Bool.false_eq_true,if_false,hn,if_neg hle,lE hi]
           rw[if_neg IW]
           simp only[Sem.run_bind,lE hi,Result.andThen_ok]
           rw[if_neg Iy]
           simp only[Sem.run_bind,Ix,Result.andThen_ok,lE hi,run_askRoom,ho,Bool.not_false,if_true,hw,hz,dB,Sem.run_pure])
end
end Go.Rn
namespace Go.Rn
open Go.RowKit
section
variable {P:Program} {B:aC} {ρ:ah} {w:World} {s s1:AS} {x:AV} {Sy:aD} {t:Tr AV} {ev:Operand->Value} {o:Oper}
theorem yT{elem:TypeId}{size:Nat}{xv:Value}{base:Option Addr}{len c n:Nat}{xt:Option TypeId}{args:Array TypeId}{sT:TypeId}{new:Array Value}{w':World}(hu:P.underlying sT=some (.slice elem))(oJ:args[0]? =some sT)(oK:args[1]? =xt)(hx:jk P xt=true)(hi:bW P elem=some size)(hn:(Builtin.lenOf xv).run P w= .ok n w)(hle:len+n<=c)(hw:(Builtin.firstCells size n xv).run P w= .ok new w)(lr:(match base with|some a=>storeCells (a.add<|len*size) new.toList|none=>pure ()).run P w= .ok () w'):
    (Builtin.append_ args 0 #[.slice base len c,xv]).run P w= .ok (.slice base (len+n) c) w':=by
  have dR:base=none->w'=w:=by
    intro e;subst e
    have PO:Result.ok () w= .ok () w':=lr
    injection PO with _ e;exact e.symm
  unfold jk at hx
  cases xt with
  | none=>
    simp only[Builtin.append_,oJ,oK]
    simp only[show(#[Value.slice base len c,xv]:Array Value)[0]? =some (.slice base len c) from rfl,show(#[Value.slice base len c,xv]:Array Value)[1]? =some xv from rfl]
    simp only[Sem.run_bind,aR hu,Result.andThen_ok,cP hi,Sem.run_pure,Bool.false_eq_true,if_false,hn,if_pos hle,Bool.not_false,if_true,hw]
    cases base with
    |none=>simp only[Sem.run_pure,dR rfl]
    |some a=>simp only[Sem.run_bind,show(storeCells (a.add<|len*size) new.toList).run P w= .ok () w' from lr,Result.andThen_ok,Sem.run_pure]
  | some q =>
    simp only at hx
    cases e:P.underlying q with
    |none=>rw[e] at hx;cases hx
    | some d=>
      rw[e] at hx
      cases d<;>first
        |(cases hx;done)
        | (simp only[Builtin.append_,oJ,oK]
           simp only[show(#[Value.slice base len c,xv]:Array Value)[0]? =some (.slice base len c) from rfl,show(#[Value.slice base len c,xv]:Array Value)[1]? =some xv from rfl]
           simp only[Sem.run_bind,aR hu,Result.andThen_ok,cP hi,Sem.run_pure,aR e,Bool.false_eq_true,if_false,hn,if_pos hle,Bool.not_false,if_true,hw]
           cases base with
           |none=>simp only[Sem.run_pure,dR rfl]
           |some a=>simp only[Sem.run_bind,show(storeCells (a.add<|len*size) new.toList).run P w= .ok () w' from lr,Result.andThen_ok,Sem.run_pure])
theorem JN{i:TypeInfo}{elem:TypeId}(hi:P.info? elem=some i)(h:lI i=true):∃zv,(∀w':World,(zeroValue elem).run P w'= .ok zv w')/\zv.cells.size=i.size:=by
 unfold lI at h;cases e:i.zero with
 |none=>rw[e] at h;cases h
 |some v=>rw[e] at h;exact⟨v,fun w'=>by simp[zeroValue,lE hi,e],cj.1 h⟩
theorem JO{n off:Nat}{l:List AV}{vs:List Value}{u:Unit}{b N:Nat}(fi:aO s)(r:Rel B ρ s.h w)(hN:off+l.length<=N)(h:nL n off l s= .ok u s1)(hn:ρ n=some (b,N))(hl:aq ρ l vs):
 s1.nx=s.nx/\∃w',(storeCells ⟨b,off,none⟩ vs).run P w= .ok () w'/\Rel B ρ s1.h w'/\bh B w w':=by
 cases l with
 |nil=>simp only[aq] at hl;subst hl;have h':M.pure () s= .ok u s1:=h;obtain⟨_,rfl⟩:=aM h';exact⟨rfl,w,rfl,r,bh.refl _ _⟩
 |cons x l=>
  unfold nL at h;obtain⟨o,s2,h1,h2⟩:=M.aI h;obtain⟨hx,hg,hh,bj⟩:=dW h1;have ht:n<top:=Nat.lt_of_lt_of_le hx fi.nx;obtain⟨o',hb,hO,hB⟩:=r.block ht hg hn;cases o with
  |cells m t z=>
   obtain⟨q1,q2⟩:=bM h2;obtain⟨q3,q4⟩:=and_true.1 q1;obtain⟨q5,q6⟩:=and_true.1 q4;obtain⟨_,_,_,e1,e2⟩:=gj q2;obtain⟨c,e,rfl,hc,hm,row⟩:=hO;have hlen:(x::l).length=vs.length:=hl.length;have h3:off<=m:=aL.1 q3;have h4:max m (off+(x::l).length)<=top:=aL.1 q5;have h5:∀y∈x::l,y.bB=true:=fun y hy=>List.all_eq_true.1 q6 y hy;have lr:=A9 (P:=P) (off:=off) (vs:=vs) hb (by omega)<|xZ hl h5;obtain⟨g1,g2⟩:=AL (cs:=(c.toList.take off++vs++c.toList.drop (off+vs.length)).toArray) hb;refine⟨by rw[e2,bj],_,lr,?_,g1.below<|hB rfl⟩;rw[e1,hh];refine r.put ht hg rfl rfl hn rfl g1 g2 ?_;refine⟨_,e,rfl,(size_set<|by omega).trans hc,?_,?_⟩
   ·show max m (off+(x::l).length)<=N;omega
   ·have h6:max m (off+(x::l).length)<=c.size:=by omega
    exact Row.set (ρ:=ρ) (c:=c) (n:=m) row hl h5 h3 rfl h6 h4
  |_=>cases h2
theorem Bb{elem sT:TypeId}{i:TypeInfo}{sv xv:Value}{base:Option Addr}{len c n:Nat}{xt:Option TypeId}{args:Array TypeId}{bD new:List AV}{vo vn:Array Value}(hs:sv= .slice base len c)(hu:P.underlying sT=some (.slice elem))(oJ:args[0]? =some sT)(oK:args[1]? =xt)(hx:jk P xt=true)(hi:P.info? elem=some i)(hz:lI i=true)(hn:(Builtin.lenOf xv).run P w= .ok n w)(aS:c<len+n)(r:Rel B ρ s.h w)(hf:bH s.nx s1.nx ρ)(cr:bD.length=len*i.size)(oL:new.length=n*i.size)(ho:(Builtin.firstCells i.size len sv).run P {w with drawn:=w.drawn+1}= .ok vo {w with drawn:=w.drawn+1})(hw:(Builtin.firstCells i.size n xv).run P {w with drawn:=w.drawn+1}= .ok vn {w with drawn:=w.drawn+1})(IX:aq ρ bD vo.toList)(uz:aq ρ new vn.toList)(h:grown i.size i.bytes (len+n) bD new s= .ok x s1):dT P B ρ s s1 w x<|Builtin.append_ args 0 #[sv,xv]:=by
 unfold grown at h;obtain⟨h1,h2⟩:=bM h;obtain⟨m,s2,h3,h4⟩:=M.aI h2;obtain⟨rfl,rfl⟩:=aM h4;obtain⟨h5,h6⟩:=and_true.1 h1;have lZ:=aL.1 h5;have hb:i.bytes≠0:=by intro e;rw[e] at h6;simp at h6
 obtain⟨zv,QO,QP⟩:=JN (P:=P) hi hz;obtain⟨rest,nc,g1,g2,g3⟩:=Mu (P:=P) (w:=w) hs hu oJ oK hx hi hn aS lZ hb ho hw QO;have r1:Rel B ρ s.h {w with drawn:=w.drawn+1}:=r.wq<|dj.drew w;obtain⟨rfl,k1,σ,k2,k3,k4,k5⟩:=AY (P:=P) elem rest r1 hf h3<|IX.append uz;have e:vo.toList++vn.toList++rest=(vo++vn).toList++rest:=by simp
 refine⟨σ,_,_,k2,g3,?_,?_,(dj.trans (dj.drew w)<|dj.alloc _ _).below r.size⟩
 ·simp only[VR];refine⟨_,_,nc,k3,rfl,g1,g1,?_⟩;have e1:=IX.length;have e2:=uz.length;simp only[List.length_append];rw[←e1, ←e2,cr,oL,g2,QP,Nat.zero_add, ←Nat.add_mul, ←Nat.add_mul];exact Nat.le_of_eq (by congr 1;omega)
 ·rw[e] at k5;exact k5
theorem JA{size len:Nat}{base:Option<|Nat×Nat}{cap:bc}{l:List AV}{v:Value}(fi:aO s)(r:Rel B ρ s.h w)(ha:VR ρ (.slice base len cap) v)(hc:cap≠ .lost)(h:firstCells size len (.slice base len cap) s= .ok l s1):l.length=len*size:=by
 cases base with
 |none=>obtain⟨rfl,rfl,rfl⟩:=fJ ha;obtain⟨rfl,rfl⟩:=aM (show(M.pure []:M<|List AV) s= .ok l s1 from h);simp
 |some p=>obtain⟨m,i⟩:=p;rw[sK hc] at h;obtain⟨b,N,q,k,hn,rfl⟩:=mI ha;exact(mG (P:=(default:Program)) fi r h hn).2.2.1
end
end Go.Rn
namespace Go.Rn
open Go.RowKit
theorem Sx.bg{α:Type}{m:M α}(hm:Sx m){s s1:AS}{v:α}(fi:aO s)(h:m s= .ok v s1):aO s1:=by obtain⟨dr,dw,d,_⟩:=hm s v s1 fi h;exact d.bg fi
theorem Sx.le{α:Type}{m:M α}(hm:Sx m){s s1:AS}{v:α}(fi:aO s)(h:m s= .ok v s1):s.nx<=s1.nx:=by obtain⟨dr,dw,d,_⟩:=hm s v s1 fi h;exact d.nx
section
variable {P:Program} {B:aC} {ρ:ah} {w:World} {s s1:AS} {x:AV} {Sy:aD} {t:Tr AV} {ev:Operand->Value} {o:Oper}
theorem dT.nx{s2:AS}{c:Sem Value}(h:dT P B ρ s2 s1 w x c)(e:s2.nx=s.nx):dT P B ρ s s1 w x c:=by unfold dT at h ⊢;rw[e] at h;exact h
theorem EX{elem sT:TypeId}{size len c n m b N:Nat}{xv:Value}{xt:Option TypeId}{args:Array TypeId}{bD new:List AV}{vn:Array Value}{s2:AS}{p:U}{bytes:Nat}{vo:List Value}(hu:P.underlying sT=some (.slice elem))(oJ:args[0]? =some sT)(oK:args[1]? =xt)(hx:jk P xt=true)(hi:bW P elem=some size)(hn:(Builtin.lenOf xv).run P w= .ok n w)(hle:len+n<=c)(r:Rel B ρ s.h w)(ht:m<top)(hg:s.h.get m=some p)(hp:p.o9=true)(hm:ρ m=some (b,N))(hc:c*size<=N)(hf:bH s.nx s1.nx ρ)(cr:bD.length=len*size)(oL:new.length=n*size)(QQ:s2.h=s.h.put m none)(xd:s2.nx=s.nx)(hw:(Builtin.firstCells size n xv).run P w= .ok vn w)(hold:∀j v,vo[j]? =some v->w.cell? ⟨b,0+j,none⟩=some v)(ho:aq ρ bD vo)(uz:aq ρ new vn.toList)(h:grown size bytes (len+n) bD new s2= .ok x s1):dT P B ρ s s1 w x<|Builtin.append_ args 0 #[.slice (some ⟨b,0,none⟩) len c,xv]:=by
 obtain⟨o',hb,hO,hB⟩:=r.block ht hg hm;cases p with
 |cells k tr z=>
  obtain⟨c0,e0,rfl,lu,hk,row⟩:=hO;unfold grown at h;obtain⟨_,h2⟩:=bM h;obtain⟨q,s3,h3,h4⟩:=M.aI h2;obtain⟨rfl,rfl⟩:=aM h4;unfold newRow at h3;obtain⟨q1,q2⟩:=bM h3;obtain⟨q3,q4⟩:=and_true.1 q1;obtain⟨xe,rfl,rfl⟩:=jQ q2;have ng:∀y∈bD++new,y.bB=true:=fun y hy=>List.all_eq_true.1 q4 y hy;have hlen:(bD++new).length<=top:=aL.1 q3;have SV:=uz.length;have IY:=ho.length;have hmul:len*size+n*size<=c*size:=by rw[←Nat.add_mul];exact Nat.mul_le_mul_right _ hle
  have zD:len*size+vn.toList.length<=c0.size:=by omega
  have lr:=A9 (P:=P) (off:=len*size) (vs:=vn.toList) hb zD<|xZ uz fun y hy=>ng y<|List.mem_append_right _ hy;obtain⟨g1,g2⟩:=AL (cs:=(c0.toList.take (len*size)++vn.toList++c0.toList.drop (len*size+vn.toList.length)).toArray) hb;have oj:=yT (P:=P) (w:=w) (base:=some ⟨b,0,none⟩) hu oJ oK hx hi hn hle hw (by show(storeCells ((Addr.mk b 0 none).add<|len*size) vn.toList).run P w=_;rw[Addr.hQ,Nat.zero_add];exact lr);obtain⟨d1,d2⟩:=r.HB ht hg rfl rfl hm g1;have dR:ρ s2.nx=none:=hf s2.nx (by omega) (Nat.lt_succ_self _) (by omega);refine⟨dM ρ s2.nx (b,N),_,_,?_,oj,?_,?_,g1.below<|hB rfl⟩
  ·rw[←xd];exact Ext.lq dR
  ·simp only[VR];exact⟨b,N,c,eQ _ _ _,rfl,hle,hle,by omega⟩
  ·show Rel B _ (s2.h.put s2.nx<|some<|.cells (bD++new).length (Tr.fill (bD++new) 0 .nil) []) _;rw[QQ];refine d1.name xe dR rfl g2 (fun _=>hB rfl) (fun k' sh=>by
    cases e:ρ (Rn.hn k' b sh) with
    |none=>rfl
    |some x=>obtain⟨_,_,_,_,_,_,_,q3,_⟩:=r.fz k' b sh (by rw[e];exact fun h=>by cases h);exact absurd hm<|q3 m _ N ht hg rfl) d2 ?_ (r.tk.of (kJ dR) (fun j q hj hq kT=>by
    rw[Tr.cJ _ _ _ _ xe hj] at hq;by_cases e:j=s2.nx
    ·rw[if_pos e] at hq;cases hq;cases kT
    ·rw[if_neg e,Tr.cJ _ _ _ _ ht hj] at hq;by_cases e2:j=m
     ·rw[if_pos e2] at hq;cases hq
     ·rw[if_neg e2] at hq;exact hq) (by rw[g1.size];exact Nat.le_refl _) (fun b1 _ hn=>g1.block b1 fun e=>hn m _ N ht hg rfl (by rw[e];exact hm)) (fun b1 _ hn j q M hj hq da e2=>by
    rw[Tr.cJ _ _ _ _ xe hj] at hq;by_cases e:j=s2.nx
    ·subst e;rw[eQ] at e2;cases e2;exact hn m _ N ht hg rfl hm
    ·rw[if_neg e,Tr.cJ _ _ _ _ ht hj] at hq;rw[fW ρ _ e] at e2;by_cases e3:j=m
     ·rw[if_pos e3] at hq;cases hq
     ·rw[if_neg e3] at hq;exact hn j q M hj hq da e2) (fun j x sh _ _ e=>by rw[fW ρ _ (by have:=eR j x sh;omega)];exact e))
   refine⟨_,e0,rfl,?_,?_,fun i hi=>?_⟩
   ·exact(size_set zD).trans lu
   ·simp only[List.length_append];omega
   ·simp only[List.length_append] at hi;obtain⟨a,ha⟩:∃a,(bD++new)[i]? =some a:=⟨(bD++new)[i]'(by simp;exact hi),List.getElem?_eq_getElem _⟩;have jt:=oW (l:=bD++new) (i:=i) hlen (by simp;exact hi);obtain⟨v,hv,hr⟩:=(ho.append uz).get i a ha;refine⟨a,v,by rw[jt];exact ha,ng a<|List.mem_of_getElem? ha,?_,hr.mono<|kJ dR⟩;simp only[List.getElem?_toArray];by_cases q:i<len*size
    ·rw[List.getElem?_append_left<|by omega] at hv;have:=hold i v hv;simp only[World.cell?,hb,Nat.zero_add] at this;rw[List.append_assoc,List.getElem?_append_left (by simp;omega),List.getElem?_take_of_lt q];simpa using this
    ·rw[List.getElem?_append_right<|by omega] at hv;have SW:i - vo.length<vn.toList.length:=(List.getElem?_eq_some_iff.1 hv).1;rw[List.append_assoc,List.getElem?_append_right (by simp;omega)];simp only[List.length_take,Array.length_toList];rw[Nat.min_eq_left (by omega),List.getElem?_append_left<|by omega];rw[show i - len*size=i - vo.length from by omega];exact hv
 |_=>cases hp
theorem JZ{ts:Array TypeId}{a b:AV}{va vb:Value}(ha:VR ρ a va)(hb:VR ρ b vb)(fi:aO s)(r:Rel B ρ s.h w)(hf:bH s.nx s1.nx ρ)(h:ji P ts a b s= .ok x s1):
 dT P B ρ s s1 w x (Builtin.append_ ts 0 #[va,vb]):=by
 unfold ji at h;obtain⟨sT,h1,h⟩:=aX h;cases e1:P.underlying sT with
 |none=>simp only[e1] at h;cases h
 |some d=>
  cases d<;>simp only[e1] at h<;>first|(cases h;done)|skip
  rename_i elem;cases a<;>simp only at h<;>first|(cases h;done)|skip
  rename_i base len cap _;obtain⟨i,h2,h⟩:=aX h;obtain⟨h3,h⟩:=bM h;obtain⟨hz,hx⟩:=and_true.1 h3;obtain⟨n,h4,h⟩:=aX h;obtain⟨new,s2,h5,h⟩:=M.aI h;obtain⟨h6,h⟩:=bM h;have oL:=cj.1 h6;have hi:bW P elem=some i.size:=by simp[bW,h2]
  obtain⟨k1,k2,vn,k3,k4⟩:=xX (P:=P) hb fi r h5;have rd:Rel B ρ s.h {w with drawn:=w.drawn+1}:=r.wq<|dj.drew w;obtain⟨_,_,QR,z9,Aa⟩:=xX (P:=P) hb fi rd h5;have hn:=FN (P:=P) (w:=w) hb h4;have bR:aO s2:=(Sx.firstCells _ _ _).bg fi h5;have r2:Rel B ρ s2.h w:=by rw[k1];exact r
  have rV:Rel B ρ s2.h {w with drawn:=w.drawn+1}:=by rw[k1];exact rd
  unfold kz at h;cases cap with
  |lost=>cases h
  |known c=>
   simp only at h;cases q:Nat.ble (len+n) c with
   |true=>
    simp only[q] at h;have hle:=aL.1 q;obtain⟨u,s3,h7,h8⟩:=M.aI h;obtain⟨rfl,rfl⟩:=aM h8;cases base with
    |none=>
     obtain⟨rfl,rfl⟩:=aM h7;obtain⟨rfl,hc,rfl⟩:=fJ ha;cases hc;have rQ:n=0:=by omega
     subst rQ;refine⟨ρ,w,_,by rw[k2];exact Ext.refl _ _ _,yT (P:=P) (w:=w) (base:=none) e1 h1 rfl hx hi hn hle k3 rfl,?_,r2,bh.refl _ _⟩;simp[VR]
    |some p=>obtain⟨m,j⟩:=p;have nr:=ha;simp only[VR] at nr;obtain⟨bb,N,hm,rfl⟩:=nr;obtain⟨g1,w',g2,g3,g4⟩:=xW (P:=P) bR r2 h7 hm k4;refine⟨ρ,w',_,by rw[g1,k2];exact Ext.refl _ _ _,yT (P:=P) (w:=w) (base:=some ⟨bb,j,none⟩) e1 h1 rfl hx hi hn hle k3 (by show(storeCells ((Addr.mk bb j none).add<|len*i.size) vn.toList).run P w=_;rw[Addr.hQ];exact g2),?_,g3,g4⟩;simp only[VR];exact⟨bb,N,hm,rfl⟩
   |false=>
    simp only[q] at h;have aS:c<len+n:=by
     rcases Nat.lt_or_ge c (len+n) with e|e
     ·exact e
     ·rw[aL.2 e] at q;cases q
    obtain⟨bD,s3,h7,h8⟩:=M.aI h;obtain⟨j1,j2,vo,j3,j4⟩:=xX (P:=P) ha bR rV h7;have IY:=JA bR r2 ha (by intro e;cases e) h7;have:∃HZ:Option Addr,va= .slice HZ len c:=by
     cases base with
     |none=>obtain⟨rfl,hc,rfl⟩:=fJ ha;cases hc;exact⟨_,rfl⟩
     |some p=>obtain⟨m,j⟩:=p;simp only[VR] at ha;obtain⟨_,_,_,rfl⟩:=ha;exact⟨_,rfl⟩
    obtain⟨HZ,QS⟩:=this;refine dT.nx (s2:=s3) (Bb (P:=P) QS e1 h1 rfl hx h2 hz hn aS (by rw[j1];exact r2) (by rw[j2,k2];exact hf) IY oL j3 z9 j4 Aa h8) (by rw[j2,k2])
  |bA lo sz=>
   obtain⟨h7,h⟩:=bM h;have:=cj.1 h7;subst this;cases q:Nat.ble (len+n) lo with
   |true=>
    simp only[q] at h;have hle:=aL.1 q;cases base with
    |none=>cases h
    |some p=>
     obtain⟨m,j⟩:=p;simp only at h;obtain⟨u,s3,h8,h9⟩:=M.aI h;obtain⟨rfl,rfl⟩:=aM h9;have nr:=ha;simp only[VR] at nr;obtain⟨bb,N,c,hm,rfl,cr,Ab,hN⟩:=nr;have zD:j+len*i.size+new.length<=N:=by have:(len+n)*i.size<=c*i.size:=Nat.mul_le_mul_right _ (by omega);rw[Nat.add_mul] at this;omega
     obtain⟨g1,w',g2,g3,g4⟩:=JO (P:=P) bR r2 zD h8 hm k4;refine⟨ρ,w',_,by rw[g1,k2];exact Ext.refl _ _ _,yT (P:=P) (w:=w) (base:=some ⟨bb,j,none⟩) e1 h1 rfl hx hi hn (by omega) k3 (by show(storeCells ((Addr.mk bb j none).add<|len*i.size) vn.toList).run P w=_;rw[Addr.hQ];exact g2),?_,g3,g4⟩;simp only[VR];exact⟨bb,N,c,hm,rfl,cr,by omega,hN⟩
   |false=>
    simp only[q] at h;cases base with
    |none=>cases h
    |some p=>
     obtain⟨m,j⟩:=p;cases j with
     |succ j=>cases h
     |zero=>
      simp only at h;obtain⟨bD,s3,h8,h⟩:=M.aI h;obtain⟨ob,s4,h9,h⟩:=M.aI h;obtain⟨dF,h⟩:=bM h;obtain⟨u,s5,xf,mo⟩:=M.aI h;have nr:=ha;simp only[VR] at nr;obtain⟨bb,N,c,hm,rfl,cr,Ab,hN⟩:=nr;obtain⟨j1,j2,j3,j4,vo,j5,j6,j7⟩:=mG (P:=P) bR r2 h8 hm;obtain⟨_,_,_,_,QT,DF,DG,_⟩:=mG (P:=P) bR rV h8 hm;obtain⟨i1,i2,i3,i4⟩:=dW h9;obtain⟨i5,i6,i7,i8,i9⟩:=gj xf;have hh:s4.h=s2.h:=i3.trans j1;have bj:s4.nx=s.nx:=(i4.trans j2).trans k2;by_cases hq:len+n<=c
      ·refine dT.nx (s2:=s2) ?_ k2;refine EX (P:=P) (s:=s2) (s2:=s5) (p:=ob) (vo:=vo) e1 h1 rfl hx hi hn hq r2 i6 (by rw[←j1];exact i2) dF hm (by omega) (by rw[k2];exact hf) j3 oL (by rw[i8,hh]) (by rw[i9,bj,k2]) k3 j7 j6 k4 mo
      ·have oM:s4.h.get m≠some .ep:=by intro e;rw[i3,i2] at e;injection e with e;subst e;cases dF
       refine dT.nx (s2:=s5) (Bb (P:=P) rfl e1 h1 rfl hx h2 hz hn (by omega) (by rw[i8];exact Rel.drop (by rw[hh];exact r2) i6 oM) (by rw[i9,bj];exact hf) j3 oL (by simpa[Builtin.firstCells] using DF) z9 (by simpa using DG) Aa mo) (by rw[i9,bj])
theorem EE{size n o k:Nat}{v:Value}{l:List AV}{Sy:aD}(dB:qV B Sy)(ht:top<=n)(hb:VR ρ (.b9 n o k) v)(fi:aO s)(r:Rel B ρ s.h w)(h:lJ Sy n o (k*size) s= .ok l s1):
 s1.h=s.h/\s1.nx=s.nx/\l.length=k*size/\(Builtin.lenOf v).run P w= .ok k w/\∃arr:Array Value,(Builtin.firstCells size k v).run P w= .ok arr w/\aq ρ l arr.toList:=by
 rcases Nat.eq_zero_or_pos (k*size) with hk|hk
 ·rw[show lJ Sy n o (k*size)=M.pure [] from by rw[hk];rfl] at h;obtain⟨rfl,rfl⟩:=aM h;refine⟨rfl,rfl,hk.symm,?_⟩;simp only[VR] at hb;rcases hb with⟨_,rfl,a0,c,rfl,_⟩|⟨b,sh,c,e,rfl,_⟩
  ·refine⟨rfl, #[],?_,by simp[aq]⟩;cases a0<;>simp[Builtin.firstCells,loadCells,loadCellsFrom]
  ·refine⟨rfl, #[],?_,by simp[aq]⟩;simp[Builtin.firstCells,loadCells,loadCellsFrom,hk]
 rw[show lJ Sy n o (k*size)=(Sy (.row n o<|k*size) []).bind fun x=>match x with
  | .agg l=>ay (Nat.beq l.length<|k*size) <| M.pure l
  |_=>fail from by obtain⟨m,hm⟩:∃m,k*size=m+1:=⟨k*size - 1,by omega⟩;rw[hm];rfl] at h
 obtain⟨x,s2,h1,h2⟩:=M.aI h;split at h2<;>first|(cases h2;done)|skip
 rename_i l';obtain⟨h3,h4⟩:=bM h2;obtain⟨rfl,rfl⟩:=aM h4;obtain⟨a1,a2,a3⟩:=dB _ _ _ _ _ _ _ _ fi r h1;have hlen:=cj.1 h3;refine⟨a1,a2,hlen,?_⟩;simp only[VR] at hb;rcases hb with⟨_,rfl,a0,c,rfl,hz⟩|⟨b,sh,c,e,rfl,_⟩
 ·have:l=[]:=List.eq_nil_of_length_eq_zero (by rw[hlen,Nat.zero_mul]);subst this;refine⟨rfl, #[],?_,by simp[aq]⟩;cases a0<;>simp[Builtin.firstCells,loadCells,loadCellsFrom]
 ·obtain⟨l2,vs,e2,e3,e4,c',et,fr,e5,e6⟩:=a3 b sh<|e.high ht;injection e2 with e2
  subst e2;have vV:=yC (P:=P) (w:=w) e5 e6;rw[e3] at vV;exact⟨rfl,vs.toArray,by simpa[Builtin.firstCells] using vV,by simpa using e4⟩
theorem Ke{ts:Array TypeId}{a:AV}{n0 o0 k0:Nat}{va vb:Value}{Sy:aD}(dB:qV B Sy)(hl:∀t a,Sx<|Sy t a)(ha:VR ρ a va)(hb:VR ρ (.b9 n0 o0 k0) vb)(fi:aO s)(r:Rel B ρ s.h w)(hf:bH s.nx s1.nx ρ)(h:qI P Sy ts a n0 o0 k0 s= .ok x s1):
 dT P B ρ s s1 w x (Builtin.append_ ts 0 #[va,vb]):=by
 unfold qI at h;obtain⟨fP,h⟩:=bM h;have fP:=aL.1 fP;obtain⟨sT,h1,h⟩:=aX h;cases e1:P.underlying sT with
 |none=>simp only[e1] at h;cases h
 |some d=>
  cases d<;>simp only[e1] at h<;>first|(cases h;done)|skip
  rename_i elem;obtain⟨m,len,cap,rfl⟩:∃m len cap,a= .slice (some (m,0)) len cap:=by
   cases a with
   |slice base len cap=>
    cases base with
    |none=>cases h
    |some p=>
     obtain⟨m,j⟩:=p;cases j with
     |succ j=>cases h
     |zero=>exact⟨m,len,cap,rfl⟩
   |_=>cases h
  obtain⟨i,h2,h⟩:=aX h;obtain⟨h3,h⟩:=bM h;obtain⟨hz,hx⟩:=and_true.1 h3;obtain⟨cC,h⟩:=bM h;obtain⟨new,s2,h5,h⟩:=M.aI h;have hi:bW P elem=some i.size:=by simp[bW,h2]
  obtain⟨k1,k2,oL,hn,vn,k3,k4⟩:=EE (P:=P) dB fP hb fi r h5;have rd:Rel B ρ s.h {w with drawn:=w.drawn+1}:=r.wq<|dj.drew w;obtain⟨_,_,_,_,QR,z9,Aa⟩:=EE (P:=P) dB fP hb fi rd h5;have bR:aO s2:=(Sx.lJ hl _ _ _).bg fi h5;have r2:Rel B ρ s2.h w:=by rw[k1];exact r
  have rV:Rel B ρ s2.h {w with drawn:=w.drawn+1}:=by rw[k1];exact rd
  have nr:∃bb N c,ρ m=some (bb,N)/\va= .slice (some ⟨bb,0,none⟩) len c/\len<=c/\0+c*i.size<=N:=by
   cases cap with
   |lost=>cases cC
   |known c=>obtain⟨q1,q2⟩:=and_true.1 cC;have q1:=cj.1 q1;have q2:=cj.1 q2;subst q1;subst q2;simp only[VR] at ha;obtain⟨bb,N,e,hv⟩:=ha;exact⟨bb,N,0,e,hv,Nat.le_refl _,by omega⟩
   |bA lo sz=>have:=cj.1 cC;subst this;simp only[VR] at ha;obtain⟨bb,N,c,hm,hv,_,Ab,hN⟩:=ha;exact⟨bb,N,c,hm,hv,Ab,hN⟩
  obtain⟨bb,N,c,hm,rfl,Ab,hN⟩:=nr;obtain⟨bD,s3,h8,h⟩:=M.aI h;obtain⟨ob,s4,h9,h⟩:=M.aI h;obtain⟨dF,h⟩:=bM h;obtain⟨u,s5,xf,mo⟩:=M.aI h;obtain⟨j1,j2,j3,j4,vo,j5,j6,j7⟩:=mG (P:=P) bR r2 h8 hm;obtain⟨_,_,_,_,QT,DF,DG,_⟩:=mG (P:=P) bR rV h8 hm;obtain⟨i1,i2,i3,i4⟩:=dW h9;obtain⟨i5,i6,i7,i8,i9⟩:=gj xf;have hh:s4.h=s2.h:=i3.trans j1;have bj:s4.nx=s.nx:=(i4.trans j2).trans k2;by_cases hq:len+k0<=c
  ·refine dT.nx (s2:=s2) ?_ k2;refine EX (P:=P) (s:=s2) (s2:=s5) (p:=ob) (vo:=vo) e1 h1 rfl hx hi hn hq r2 i6 (by rw[←j1];exact i2) dF hm (by omega) (by rw[k2];exact hf) j3 oL (by rw[i8,hh]) (by rw[i9,bj,k2]) k3 j7 j6 k4 mo
  ·have oM:s4.h.get m≠some .ep:=by intro e;rw[i3,i2] at e;injection e with e;subst e;cases dF
   refine dT.nx (s2:=s5) (Bb (P:=P) rfl e1 h1 rfl hx h2 hz hn (by omega) (by rw[i8];exact Rel.drop (by rw[hh];exact r2) i6 oM) (by rw[i9,bj];exact hf) j3 oL (by simpa[Builtin.firstCells] using DF) z9 (by simpa using DG) Aa mo) (by rw[i9,bj])
end
end Go.Rn
namespace Go.Rn
open Go.RowKit
section
variable {P:Program} {B:aC} {ρ:ah} {w:World} {s s1:AS} {x:AV} {Sy:aD} {t:Tr AV} {ev:Operand->Value} {o:Oper}
theorem K5{ts:Array TypeId}{a b:AV}{va vb:Value}(ha:VR ρ a va)(hb:VR ρ b vb)(fi:aO s)(r:Rel B ρ s.h w)(h:pf P ts a b s= .ok x s1):
 dT P B ρ s s1 w x (Builtin.copy_ ts 0 #[va,vb]):=by
 unfold pf at h;obtain⟨sT,h1,h⟩:=aX h;cases e1:P.underlying sT with
 |none=>simp only[e1] at h;cases h
 |some d=>
  cases d<;>simp only[e1] at h<;>first|(cases h;done)|skip
  rename_i elem;cases a<;>simp only at h<;>first|(cases h;done)|skip
  rename_i base len cap _;obtain⟨k,h2,h⟩:=aX h;obtain⟨n,h3,h⟩:=aX h;obtain⟨h4,h⟩:=bM h;obtain⟨cells,s2,h5,h⟩:=M.aI h;obtain⟨u,s3,h6,h7⟩:=M.aI h;obtain⟨rfl,rfl⟩:=aM h7;have hn:=FN (P:=P) (w:=w) hb h3;obtain⟨k1,k2,vn,k3,k4⟩:=xX (P:=P) hb fi r h5;have bR:aO s2:=(Sx.firstCells _ _ _).bg fi h5;have r2:Rel B ρ s2.h w:=by rw[k1];exact r
  cases base with
  |none=>obtain⟨_,rfl⟩:=aM h6;obtain⟨rfl,hc,rfl⟩:=fJ ha;refine⟨ρ,w,.int .i64 (Nat.min n 0:Nat),by rw[k2];exact Ext.refl _ _ _,?_,by simp only[VR],r2,bh.refl _ _⟩;simp only[Builtin.copy_,h1,show(#[Value.slice none 0 0,vb]:Array Value)[0]? =some (.slice none 0 0) from rfl,show(#[Value.slice none 0 0,vb]:Array Value)[1]? =some vb from rfl,Sem.run_bind,aR e1,Result.andThen_ok,hn,cP h2,k3,Sem.run_pure,goInt]
  |some p=>
   obtain⟨m,i⟩:=p;have hq:∃bb N c,ρ m=some (bb,N)/\va= .slice (some ⟨bb,i,none⟩) len c:=by
    cases cap with
    |known c=>simp only[VR] at ha;obtain⟨bb,N,e,rfl⟩:=ha;exact⟨bb,N,c,e,rfl⟩
    |bA lo e0=>simp only[VR] at ha;obtain⟨bb,N,c,e,rfl,_⟩:=ha;exact⟨bb,N,c,e,rfl⟩
    |lost=>cases h4
   obtain⟨bb,N,c,hm,rfl⟩:=hq;obtain⟨g1,w',g2,g3,g4⟩:=xW (P:=P) bR r2 h6 hm k4;refine⟨ρ,w',.int .i64 (Nat.min n len:Nat),by rw[g1,k2];exact Ext.refl _ _ _,?_,by simp only[VR],g3,g4⟩;simp only[Builtin.copy_,h1,show(#[Value.slice (some ⟨bb,i,none⟩) len c,vb]:Array Value)[0]? =some (.slice (some ⟨bb,i,none⟩) len c) from rfl,show(#[Value.slice (some ⟨bb,i,none⟩) len c,vb]:Array Value)[1]? =some vb from rfl,Sem.run_bind,aR e1,Result.andThen_ok,hn,cP h2,k3,Sem.run_pure,goInt,g2]
theorem K6{ts:Array TypeId}{a:AV}{va:Value}(ha:VR ρ a va)(fi:aO s)(r:Rel B ρ s.h w)(h:pg P ts a s= .ok x s1):
 dT P B ρ s s1 w x (Builtin.clear_ ts 0 #[va]):=by
 unfold pg at h;have h9:=M.aI h;clear h;obtain⟨sT,s0,h0,h⟩:=h9;obtain⟨h1,uA⟩:=de h0;clear h0;subst uA;cases e1:P.underlying sT with
 |none=>simp only[e1] at h;cases h
 |some d=>
  cases d<;>simp only[e1] at h<;>first|(cases h;done)|skip
  rename_i elem;cases a<;>first|(cases h;done)|skip
  rename_i base len cap;cases base with
  |none=>obtain⟨rfl,rfl⟩:=aM h;obtain⟨rfl,hc,rfl⟩:=fJ ha;refine⟨ρ,w,undef,Ext.refl _ _ _,?_,VR.undef _,r,bh.refl _ _⟩;simp only[Builtin.clear_,h1,show(#[Value.slice none 0 0]:Array Value)[0]? =some (.slice none 0 0) from rfl,Sem.run_bind,aR e1,Result.andThen_ok,Sem.run_pure];rfl
  |some p=>
   obtain⟨m,i⟩:=p;obtain⟨_,s2,h2,QU⟩:=M.aI h;obtain⟨z,s3,h3,QV⟩:=M.aI QU;obtain⟨h4,xd⟩:=de h3;obtain⟨u,s4,h5,h6⟩:=M.aI QV;obtain⟨rfl,rfl⟩:=aM h6;have hs:s3=s0:=by rw[xd];cases cap<;>first|(cases h2;done)|(obtain⟨_,e⟩:=aM (show M.pure () s0= .ok _ s2 from h2);exact e)
   rw[hs] at h5;have hq:∃bb N c,ρ m=some (bb,N)/\va= .slice (some ⟨bb,i,none⟩) len c:=by
    cases cap with
    |known c=>simp only[VR] at ha;obtain⟨bb,N,e,rfl⟩:=ha;exact⟨bb,N,c,e,rfl⟩
    |bA lo e0=>simp only[VR] at ha;obtain⟨bb,N,c,e,rfl,_⟩:=ha;exact⟨bb,N,c,e,rfl⟩
    |lost=>cases h2
   obtain⟨bb,N,c,hm,rfl⟩:=hq;obtain⟨vz,g1,g2⟩:=qh (P:=P) (w:=w) ρ h4;have PQ:=AD (ρ:=ρ) g2.cells len;obtain⟨k1,w',k2,k3,k4⟩:=xW (P:=P) fi r h5 hm PQ;refine⟨ρ,w',undef,by rw[k1];exact Ext.refl _ _ _,?_,VR.undef _,k3,k4⟩;have PR:(Builtin.zeroCells vz.cells len).toList=(List.replicate len vz.cells.toList).flatten:=by unfold Builtin.zeroCells;rw[Fk]
   cases len with
   |zero=>
    simp only[List.replicate,List.flatten_nil] at k2;have xg:Result.ok () w=Result.ok () w':=k2;injection xg with _ xg
    simp only[Builtin.clear_,h1,show(#[Value.slice (some ⟨bb,i,none⟩) 0 c]:Array Value)[0]? =some (.slice (some ⟨bb,i,none⟩) 0 c) from rfl,Sem.run_bind,aR e1,Result.andThen_ok,Sem.run_pure,xg];rfl
   |succ len=>simp only[Builtin.clear_,h1,show(#[Value.slice (some ⟨bb,i,none⟩) (len+1) c]:Array Value)[0]? =some (.slice (some ⟨bb,i,none⟩) (len+1) c) from rfl,Sem.run_bind,aR e1,Result.andThen_ok,Sem.run_pure,g1,PR,k2];rfl
theorem K7{m:Nat}{es:List<|AV×AV}{b N:Nat}(fi:aO s)(r:Rel B ρ s.h w)(h:jW m s= .ok es s1)(hm:ρ m=some (b,N)):
 s1.h=s.h/\s1.nx=s.nx/\∃l aK,w.heap[b]? =some (.map l aK)/\lh ρ es l.toList/\(fK es\/cq ρ es l.toList):=by
 unfold jW at h;obtain⟨ob,s2,h1,h2⟩:=M.aI h;obtain⟨hx,hg,hh,bj⟩:=dW h1;have ht:m<top:=Nat.lt_of_lt_of_le hx fi.nx;obtain⟨o',hb,hO,_⟩:=r.block ht hg hm;cases ob with
 |map dD aK=>obtain⟨rfl,rfl⟩:=aM h2;obtain⟨l,rfl,_,k⟩:=hO;exact⟨hh,bj,l,aK,hb,⟨_,List.Perm.refl _,k.eqs⟩,.inr k.eqs⟩
 |cK dD=>obtain⟨rfl,rfl⟩:=aM h2;obtain⟨l,aK,rfl,ka,_,k⟩:=hO;exact⟨hh,bj,l,aK,hb,k,.inl ka⟩
 |_=>cases h2
theorem cq.length:∀{x:List<|AV×AV} {l:List MapEntry},cq ρ x l->x.length=l.length
 |[],l,k=>by have k':l=[]:=k;subst k';rfl
 |_::_,_,k=>by obtain⟨e,es,rfl,_,_,d⟩:=k;simp[cq.length d]
theorem Mv{ts:Array TypeId}{a:AV}{va:Value}(ha:VR ρ a va)(fi:aO s)(r:Rel B ρ s.h w)(h:pF P ts a s= .ok x s1):
    dT P B ρ s s1 w x (Builtin.len_ ts 0 #[va]):=by
  unfold pF at h
  have h9:=M.aI h
  clear h
  obtain⟨sT,s0,h0,h⟩:=h9
  obtain⟨h1,uA⟩:=de h0
  clear h0
  subst uA
  have pP:(#[va]:Array Value)[0]? =some va:=rfl
  cases e1:P.underlying sT with
  |none=>simp only[e1] at h;cases h
  | some d=>
    have fin:∀n:Nat,(Builtin.len_ ts 0 #[va]).run P w= .ok (goInt n) w->x= .int .i64 n->s1.h=s0.h->s1.nx=s0.nx->dT P B ρ s0 s1 w x (Builtin.len_ ts 0 #[va]):=by
      intro n hr hx hh bj
      subst hx
      exact⟨ρ,w,_,by rw[bj];exact Ext.refl _ _ _,hr,by simp only[VR,goInt],by rw[hh];exact r,bh.refl _ _⟩
    cases d<;>simp only[e1] at h<;>first|(cases h;done)|skip
    case string=>
      cases a<;>first|(cases h;done)|skip
      case str q=>
        obtain⟨rfl,rfl⟩:=aM h
        simp only[VR] at ha;subst ha
        refine fin _ ?_ rfl rfl rfl
        simp only[Builtin.len_,h1,pP,Sem.run_bind,aR e1,Result.andThen_ok,Sem.run_pure]
      case oe q=>
        obtain⟨rfl,rfl⟩:=aM h
        simp only[VR] at ha;subst ha
        have gb:(⟨(List.replicate q (0:UInt8)).toArray⟩:ByteArray).size=q:=by simp[ByteArray.size]
        refine fin _ ?_ rfl rfl rfl
        simp only[Builtin.len_,h1,pP,Sem.run_bind,aR e1,Result.andThen_ok,Sem.run_pure,gb]
    case array n e=>
      obtain⟨rfl,rfl⟩:=aM h
      refine fin _ ?_ rfl rfl rfl
      simp only[Builtin.len_,h1,pP,Sem.run_bind,aR e1,Result.andThen_ok,Sem.run_pure]
    case pointer pt=>
      cases e2:P.underlying pt with
      |none=>simp only[e2] at h;cases h
      | some d=>
        cases d<;>simp only[e2] at h<;>first|(cases h;done)|skip
        obtain⟨rfl,rfl⟩:=aM h
        refine fin _ ?_ rfl rfl rfl
        simp only[Builtin.len_,h1,pP,Sem.run_bind,aR e1,aR e2,Result.andThen_ok,Sem.run_pure]
    case slice e=>
      cases a<;>first|(cases h;done)|skip
      case slice base len cap=>
        obtain⟨rfl,rfl⟩:=aM h
        have:∃p c,va= .slice p len c:=by
          cases base with
          |none=>obtain⟨rfl,_,rfl⟩:=fJ ha;exact⟨_,_,rfl⟩
          |some p=>obtain⟨m,j⟩:=p;obtain⟨_,_,_,_,_,rfl⟩:=mI ha;exact⟨_,_,rfl⟩
        obtain⟨p,c,rfl⟩:=this
        refine fin _ ?_ rfl rfl rfl
        simp only[Builtin.len_,h1,pP,Sem.run_bind,aR e1,Result.andThen_ok,Sem.run_pure]
      case b9 n o len=>
        obtain⟨rfl,rfl⟩:=aM h
        simp only[VR] at ha
        rcases ha with⟨_,rfl,_,_,rfl,_⟩|⟨b,sh,c,_,rfl,_⟩<;>
        (refine fin _ ?_ rfl rfl rfl
         simp only[Builtin.len_,h1,pP,Sem.run_bind,aR e1,Result.andThen_ok,Sem.run_pure])
    case map kt et=>
      cases a<;>first|(cases h;done)|skip
      rename_i m
      cases m with
      | none=>
        obtain⟨rfl,rfl⟩:=aM h
        simp only[VR] at ha;subst ha
        refine fin 0 ?_ rfl rfl rfl
        simp only[Builtin.len_,h1,pP,Sem.run_bind,aR e1,Result.andThen_ok,Sem.run_pure]
        rfl
      | some m=>
        obtain⟨es,s2,h2,h3⟩:=M.aI h
        obtain⟨rfl,rfl⟩:=aM h3
        simp only[VR] at ha
        obtain⟨b,N,hm,rfl⟩:=ha
        obtain⟨g1,g2,l,aK,g3,⟨l',g4,g5⟩,_⟩:=K7 fi r h2 hm
        refine fin _ ?_ rfl g1 g2
        have hl:l.size=es.length:=by rw[g5.length, ←g4.length_eq];simp
        simp only[Builtin.len_,h1,pP,Sem.run_bind,aR e1,Result.andThen_ok,Sem.run_pure,MapKept.run_getObj_map g3,hl]
theorem Bz{f:AV->AV->Option AV}{g:Value->Value->Sem Value}(hf:∀a b c va vb,f a b=some c->VR ρ a va->VR ρ b vb->∃vc,(g va vb).run P w= .ok vc w/\VR ρ c vc):
 ∀{l:List AV} {vs:List Value} {a c:AV} {va:Value},tB f l a=some c->aq ρ l vs->VR ρ a va->∃vc,(vs.foldlM g va).run P w= .ok vc w/\VR ρ c vc
 |[],vs,a,c,va,h,hl,ha=>by
  simp only[aq] at hl;subst hl;simp only[tB] at h;injection h with h;subst h
  exact⟨va,rfl,ha⟩
 |y::l,vs,a,c,va,h,hl,ha=>by
  simp only[aq] at hl;obtain⟨v,ys,rfl,hv,hl⟩:=hl;simp only[tB] at h;cases e:f a y with
  |none=>rw[e] at h;cases h
  |some z=>simp only[e] at h;obtain⟨vz,g1,g2⟩:=hf a y z va v e ha hv;obtain⟨vc,g3,g4⟩:=Bz hf h hl g2;exact⟨vc,by simp only[List.foldlM_cons,Sem.run_bind,g1,Result.andThen_ok,g3],g4⟩
theorem Mw(a b c:AV)(va vb:Value)(h:min2 a b=some c)(ha:VR ρ a va)(hb:VR ρ b vb):∃vc,(Builtin.min2 va vb).run P w= .ok vc w/\VR ρ c vc:=by
 unfold min2 at h;split at h
 ·rename_i k x k2 y;injection h with h;subst h
  simp only[VR] at ha hb;subst ha;subst hb;refine⟨_,rfl,?_⟩;simp only[VR];by_cases q:y<x<;>simp[q]
 ·cases h
theorem Mx(a b c:AV)(va vb:Value)(h:max2 a b=some c)(ha:VR ρ a va)(hb:VR ρ b vb):∃vc,(Builtin.max2 va vb).run P w= .ok vc w/\VR ρ c vc:=by
 unfold max2 at h;split at h
 ·rename_i k x k2 y;injection h with h;subst h
  simp only[VR] at ha hb;subst ha;subst hb;refine⟨_,rfl,?_⟩;simp only[VR];by_cases q:y>x<;>simp[q]
 ·cases h
theorem J0{b:Builtin}{ts:Array TypeId}{ty:TypeId}{consts:Array Bool}{l:List AV}{vs:Array Value}(hl:aq ρ l vs.toList)(fi:aO s)(r:Rel B ρ s.h w)(hf:bH s.nx s1.nx ρ)(h:o4 P b ts l s= .ok x s1):cU P B ρ s s1 w x<|Go.builtin b ts ty consts vs:=by
 obtain⟨vs⟩:=vs;unfold o4 at h;split at h
 ·rename_i y;simp only[aq] at hl;obtain⟨v,ys,rfl,hv,rfl⟩:=hl;exact(Mv hv fi r h).op
 ·rename_i y z;simp only[aq] at hl;obtain⟨v,ys,rfl,hv,v2,IZ,rfl,rW,rfl⟩:=hl;exact(JZ hv rW fi r hf h).op
 ·rename_i y z;simp only[aq] at hl;obtain⟨v,ys,rfl,hv,v2,IZ,rfl,rW,rfl⟩:=hl;exact(K5 hv rW fi r h).op
 ·rename_i y;simp only[aq] at hl;obtain⟨v,ys,rfl,hv,rfl⟩:=hl;exact(K6 hv fi r h).op
 ·rename_i y z;simp only[aq] at hl;obtain⟨v,ys,rfl,hv,hl⟩:=hl;obtain⟨h1,rfl⟩:=de h;obtain⟨vc,g1,g2⟩:=Bz (P:=P) (w:=w) Mw h1 hl hv;exact dT.op (c:=Builtin.min_ ts ty ⟨v::ys⟩) ⟨ρ,w,vc,Ext.refl _ _ _,g1,g2,r,bh.refl _ _⟩
 ·rename_i y z;simp only[aq] at hl;obtain⟨v,ys,rfl,hv,hl⟩:=hl;obtain⟨h1,rfl⟩:=de h;obtain⟨vc,g1,g2⟩:=Bz (P:=P) (w:=w) Mx h1 hl hv;exact dT.op (c:=Builtin.max_ ts ty ⟨v::ys⟩) ⟨ρ,w,vc,Ext.refl _ _ _,g1,g2,r,bh.refl _ _⟩
 ·cases h
theorem K8{ts:Array TypeId}{ty:TypeId}{consts:Array Bool}{y:AV}{n q k:Nat}{vs:Array Value}(dB:qV B Sy)(xh:∀t a,Sx<|Sy t a)(hl:aq ρ [y,.b9 n q k] vs.toList)(fi:aO s)(r:Rel B ρ s.h w)(hf:bH s.nx s1.nx ρ)(h:qI P Sy ts y n q k s= .ok x s1):cU P B ρ s s1 w x<|Go.builtin .append ts ty consts vs:=by obtain⟨vs⟩:=vs;simp only[aq] at hl;obtain⟨v,ys,rfl,hv,hl⟩:=hl;obtain⟨v2,IZ,rfl,rW,rfl⟩:=hl;exact(Ke dB xh hv rW fi r hf h).op
theorem J1{b:Builtin}{ts:Array TypeId}{args:Array Operand}(dB:qV B Sy)(xh:∀t a,Sx<|Sy t a)(he:∀x v,ak t x=some v->VR ρ v (ev x))(fi:aO s)(r:Rel B ρ s.h w)(hf:bH s.nx s1.nx ρ)(h:iG P b ts args.toList Sy t s= .ok x s1)(ho:o.op= .call ⟨.builtin b,args,ts⟩):cU P B ρ s s1 w x<|execOp ev o:=by
 unfold iG at h;obtain⟨vs,h1,h2⟩:=aX h;have hl:=tc he h1;have key:(∃y n q k,b= .append/\vs=[y,.b9 n q k]/\qI P Sy ts y n q k s= .ok x s1)\/o4 P b ts vs s= .ok x s1:=by
  split at h2
  ·exact .inl ⟨_,_,_,_,rfl,rfl,h2⟩
  ·exact .inr h2
 have all:∀consts:Array Bool,cU P B ρ s s1 w x<|Go.builtin b ts o.type consts<|args.map ev:=fun consts=>by
  rcases key with⟨y,n,q,k,rfl,rfl,h2⟩|h2
  ·exact K8 dB xh (by simpa using hl) fi r hf h2
  ·exact J0 (vs:=args.map ev) (by simpa using hl) fi r hf h2
 have:=all (args.map fun| .const _=>true|_=>false);obtain⟨σ,w',nv,a1,a2,a3⟩:=this;refine⟨σ,w',nv,a1,?_,a3⟩;simp only[execOp,ho,resolve,Sem.run_bind,Sem.run_pure,Result.andThen_ok,invoke];exact a2
end
end Go.Rn
namespace Go.Rn
open Go.RowKit
section
variable {P:Program} {B:aC} {ρ:ah} {w:World} {s s1:AS} {x:AV} {Sy:aD} {t:Tr AV} {ev:Operand->Value} {o:Oper}
theorem Az{em:Bool}{d:Nat}{rL:TypeId->AV->Bool}(hc:∀ty a v,rL ty a=true->VR ρ a v->(Instr.checkKey em d ty v).run P w= .ok () w){cs:List AV}{ds:Array Value}(hx:aq ρ cs ds.toList):∀{fs:List Field},u7 P rL cs fs=true->
 (forIn fs PUnit.unit fun f _=>do
  if f.name≠ "_" then do
   Instr.checkKey em d f.type (←part f.type ds f.offset)
   pure (ForInStep.yield PUnit.unit)
  else pure (ForInStep.yield PUnit.unit):Sem PUnit).run P w= .ok PUnit.unit w
 |[],_=>rfl
 |f::fs,h=>by
  simp only[u7] at h;rw[List.forIn_cons];cases en:(f.name == "_") with
  |true=>
   simp only[en] at h;have:¬(f.name≠ "_"):=by simpa using en
   rw[if_neg this];simp only[Sem.run_bind,Sem.run_pure,Result.andThen_ok];exact Az hc hx h
  |false=>
   simp only[en] at h;have bO:f.name≠ "_" :=by intro e;rw[e] at en;simp at en
   rw[if_pos bO];cases e1:ia P f.type cs f.offset with
   |none=>simp only[e1] at h;cases h
   |some a=>
    simp only[e1] at h;obtain⟨v,g1,g2⟩:=qo (w:=w) hx e1;cases e2:rL f.type a with
    |false=>simp only[e2] at h;cases h
    |true=>simp only[e2] at h;simp only[Sem.run_bind,Sem.run_pure,Result.andThen_ok,g1,hc _ _ _ e2 g2];exact Az hc hx h
theorem yu{em:Bool}:∀{d:Nat} {ty:TypeId} {a:AV} {v:Value},fh P d ty a=true->VR ρ a v->(Instr.checkKey em d ty v).run P w= .ok () w
 |0,_,_,_,h,_=>by simp only[fh] at h;cases h
 |d+1,ty,a,v,h,ha=>by
  simp only[fh] at h;rw[Instr.checkKey];split at h<;>first|(cases h;done)|skip
  ·rename_i e;simp[aR e]
  ·rename_i e;simp[aR e]
  ·rename_i e;simp[aR e]
  ·rename_i fs cs e;simp only[VR] at ha;obtain⟨ds,rfl,hl⟩:=ha;simp only[Sem.run_bind,aR e,Result.andThen_ok];have:=Az (P:=P) (w:=w) (em:=em) (d:=d) (fun ty a v h1 h2=>yu h1 h2) hl h;rw[←Array.forIn_toList];simp only[this,Result.andThen_ok,Sem.run_pure]
theorem uY{a b:AV}{c:Bool}{v u:Value}{kd:TypeDesc}{k:TypeId}(hk:P.underlying k=some kd)(hp:plainKey P k a=true)(h:sameKey a b=some c)(ha:VR ρ a v)(hb:VR ρ b u):Instr.sameNow kd v u=some c:=by
 unfold plainKey at hp;rw[hk] at hp;unfold sameKey at h;split at h<;>first|(cases h;done)|skip
 ·rename_i k1 x1 k2 x2;simp only[VR] at ha hb;subst ha;subst hb;cases DH:decide (k1=k2) with
  |false=>rw[DH] at h;cases h
  |true=>
   rw[DH] at h;injection h with h;subst h
   have:=of_decide_eq_true DH;cases kd<;>first|(cases hp;done)|simp[Instr.sameNow,this]
 ·injection h with h;subst h
  simp only[VR] at ha hb;subst ha;subst hb;cases kd<;>first|(cases hp;done)|simp[Instr.sameNow]
 ·injection h with h;subst h
  simp only[VR] at ha hb;subst ha;subst hb;cases kd<;>first|(cases hp;done)|simp[Instr.sameNow]
def tN(ρ:ah)(es:List<|AV×AV)(l:List MapEntry)(i:Nat):Option (Nat×AV)->Option (Nat×Value)->Prop
 |none,r=>r=none
 |some (j,x),r=>∃y q e,r=some (j,y)/\VR ρ x y/\i<=j/\es[j - i]? =some q/\l[j - i]? =some e/\VR ρ q.1 e.key/\q.2=x/\e.val=y
theorem tN.next{es:List<|AV×AV}{l:List MapEntry}{i:Nat}{p:AV×AV}{e:MapEntry}{r:Option<|Nat×AV}{r':Option<|Nat×Value}(h:tN ρ es l (i+1) r r'):tN ρ (p::es) (e::l) i r r':=by
 cases r with
 |none=>exact h
 |some q=>
  obtain⟨j,x⟩:=q;obtain⟨y,q,e2,h1,h2,h3,h4,h5,h6⟩:=h;refine⟨y,q,e2,h1,h2,by omega,?_,?_,h6⟩
  ·rw[show j - i=(j - (i+1))+1 from by omega];simpa using h4
  ·rw[show j - i=(j - (i+1))+1 from by omega];simpa using h5
theorem Ez{k:TypeId}{kd:TypeDesc}{key:AV}{v:Value}(hk:P.underlying k=some kd)(hp:plainKey P k key=true)(hv:VR ρ key v):∀{es:List<|AV×AV} {l:List MapEntry} {i:Nat} {r:Option<|Nat×AV},
 cq ρ es l->dH key es i=some r->∃r',Instr.findNow kd v l i=some r'/\tN ρ es l i r r'
 |[],l,i,r,he,h=>by
  have xj:l=[]:=he;subst xj;simp only[dH] at h;injection h with h;subst h
  exact⟨none,rfl,rfl⟩
 |(a,b)::es,l,i,r,he,h=>by
  obtain⟨e,l',rfl,h1,h2,h3⟩:=he;simp only[dH] at h;cases q:sameKey key a with
  |none=>rw[q] at h;cases h
  |some c=>
   have:=uY hk hp q hv h1;cases c with
   |true=>
    simp only[q] at h;injection h with h;subst h
    exact⟨some (i,e.val),by simp only[Instr.findNow,this],e.val,(a,b),e,rfl,h2,Nat.le_refl _,by simp,by simp,h1,rfl,rfl⟩
   |false=>simp only[q] at h;obtain⟨r',g1,g2⟩:=Ez hk hp hv h3 h;exact⟨r',by simp only[Instr.findNow,this];exact g1,g2.next⟩
theorem EF{k:TypeId}{key:AV}{v:Value}(hv:VR ρ key v):∀{es:List<|AV×AV} {l:List MapEntry} {i:Nat} {r:Option<|Nat×AV},
 cq ρ es l->vq P k key es i=some r->∃r',(Instr.findAsking k v l i).run P w= .ok r' w/\tN ρ es l i r r'
 |[],l,i,r,he,h=>by
  have xj:l=[]:=he;subst xj;simp only[vq] at h;injection h with h;subst h
  exact⟨none,rfl,rfl⟩
 |(a,b)::es,l,i,r,he,h=>by
  obtain⟨e,l',rfl,h1,h2,h3⟩:=he;simp only[vq] at h;cases q:fZ P Op.maxDepth k key a with
  |none=>rw[q] at h;cases h
  |some c=>
   have hq:(Op.equal k v e.key).run P w= .ok c w:=vH q hv h1;cases c with
   |true=>
    simp only[q] at h;injection h with h;subst h
    exact⟨some (i,e.val),by simp[Instr.findAsking,hq],e.val,(a,b),e,rfl,h2,Nat.le_refl _,by simp,by simp,h1,rfl,rfl⟩
   |false=>simp only[q] at h;obtain⟨r',g1,g2⟩:=EF hv h3 h;exact⟨r',by simp[Instr.findAsking,hq,g1],g2.next⟩
theorem N4{a:AV}{k:IntKind}{n:Int}(ha:VR ρ a<|.int k n):a= .int k n:=by
 cases a<;>(try simp only[VR] at ha)<;>first|(cases ha;rfl)|(cases ha;done)|skip
 ·rename_i q;cases q<;>simp only[VR] at ha<;>first|(cases ha;done)|(obtain⟨_,_,_,e⟩:=ha;cases e)
 ·rename_i q l c;cases q with
  |none=>obtain⟨_,_,e⟩:=fJ ha;cases e
  |some q=>obtain⟨n,i⟩:=q;obtain⟨_,_,_,_,_,e⟩:=mI ha;cases e
 ·rcases ha with⟨_,_,_,_,e,_⟩|⟨_,_,_,_,e,_⟩<;>cases e
 ·obtain⟨_,_,_,e⟩:=ha;cases e
 ·rename_i q;cases q<;>simp only[VR] at ha<;>first|(cases ha;done)|(obtain⟨_,_,_,e⟩:=ha;cases e)
 ·obtain⟨_,_,_,e,_⟩:=ha;cases e
 ·obtain⟨_,_,_,e⟩:=ha;cases e
 ·obtain⟨_,e,_⟩:=ha;cases e
 ·obtain⟨_,e,_⟩:=ha;cases e
 ·obtain⟨_,e,_⟩:=ha;cases e
theorem N5{a:AV}{q:ByteArray}(hz:iY a=true)(ha:VR ρ a<|.string q):a= .str q:=by
 cases a<;>(try cases hz;done)<;>(try simp only[VR] at ha)<;>first|(cases ha;rfl)|(cases ha;done)|skip
 ·rename_i q;cases q<;>simp only[VR] at ha<;>first|(cases ha;done)|(obtain⟨_,_,_,e⟩:=ha;cases e)
 ·rename_i q l c;cases q with
  |none=>obtain⟨_,_,e⟩:=fJ ha;cases e
  |some q=>obtain⟨n,i⟩:=q;obtain⟨_,_,_,_,_,e⟩:=mI ha;cases e
 ·rcases ha with⟨_,_,_,_,e,_⟩|⟨_,_,_,_,e,_⟩<;>cases e
 ·obtain⟨_,_,_,e⟩:=ha;cases e
 ·rename_i q;cases q<;>simp only[VR] at ha<;>first|(cases ha;done)|(obtain⟨_,_,_,e⟩:=ha;cases e)
 ·obtain⟨_,_,_,e,_⟩:=ha;cases e
 ·obtain⟨_,_,_,e⟩:=ha;cases e
 ·obtain⟨_,e,_⟩:=ha;cases e
 ·obtain⟨_,e,_⟩:=ha;cases e
 ·obtain⟨_,e,_⟩:=ha;cases e
theorem G5{a:AV}{b:Bool}(ha:VR ρ a<|.bool b):a= .bool b:=by
 cases a<;>(try simp only[VR] at ha)<;>first|(cases ha;rfl)|(cases ha;done)|skip
 ·rename_i q;cases q<;>simp only[VR] at ha<;>first|(cases ha;done)|(obtain⟨_,_,_,e⟩:=ha;cases e)
 ·rename_i q l c;cases q with
  |none=>obtain⟨_,_,e⟩:=fJ ha;cases e
  |some q=>obtain⟨n,i⟩:=q;obtain⟨_,_,_,_,_,e⟩:=mI ha;cases e
 ·rcases ha with⟨_,_,_,_,e,_⟩|⟨_,_,_,_,e,_⟩<;>cases e
 ·obtain⟨_,_,_,e⟩:=ha;cases e
 ·rename_i q;cases q<;>simp only[VR] at ha<;>first|(cases ha;done)|(obtain⟨_,_,_,e⟩:=ha;cases e)
 ·obtain⟨_,_,_,e,_⟩:=ha;cases e
 ·obtain⟨_,_,_,e⟩:=ha;cases e
 ·obtain⟨_,e,_⟩:=ha;cases e
 ·obtain⟨_,e,_⟩:=ha;cases e
 ·obtain⟨_,e,_⟩:=ha;cases e
theorem My{k:TypeId}{kd:TypeDesc}{key:AV}{v:Value}(hk:P.underlying k=some kd)(hz:iY key=true)(hp:plainKey P k key=false)(hv:VR ρ key v)(u:Value):Instr.sameNow kd v u=none:=by
 cases e:Instr.sameNow kd v u with
 |none=>rfl
 |some c=>
  exfalso;unfold Instr.sameNow at e;unfold plainKey at hp;rw[hk] at hp;split at e<;>first|(cases e;done)|skip
  ·rw[N4 hv] at hp;cases hp
  ·rw[N5 hz hv] at hp;cases hp
  ·rw[G5 hv] at hp;cases hp
theorem HC{key:AV}{o:Option<|Option<|Nat×AV}{r:Option<|Nat×AV}(h:(match iY key with|false=>none|true=>o)=some r):iY key=true:=by
 cases hz:iY key with
 |false=>rw[hz] at h;cases h
 |true=>rfl
theorem EY{k:TypeId}{kd:TypeDesc}{key:AV}{v:Value}{es:List<|AV×AV}{l:List MapEntry}{r:Option<|Nat×AV}(hk:P.underlying k=some kd)(hv:VR ρ key v)(he:cq ρ es l)(h:findKey P k key es=some r):
 ∃r',(Instr.findKey k v l).run P w= .ok r' w/\tN ρ es l 0 r r':=by
 unfold findKey at h;cases hz:iY key with
 |false=>rw[hz] at h;cases h
 |true=>
 simp only[hz] at h;cases hp:plainKey P k key with
 |true=>simp only[hp] at h;obtain⟨r',g1,g2⟩:=Ez hk hp hv he h;exact⟨r',MapKept.run_findKey hk g1,g2⟩
 |false=>
  simp only[hp] at h;obtain⟨r',g1,g2⟩:=EF (P:=P) (w:=w) hv he h;refine⟨r',?_,g2⟩;cases l with
  |nil=>
   have oC:Result.ok none w=Result.ok r' w:=g1;injection oC with oC;subst oC
   exact MapKept.run_findKey hk rfl
  |cons e l=>
   have:Instr.findNow kd v (e::l) 0=none:=by simp only[Instr.findNow,My hk hz hp hv e.key]
   simp only[Instr.findKey,Sem.run_bind,aR hk,Result.andThen_ok,this];exact g1
theorem Aw{key:AV}:∀{es:List<|AV×AV} {i:Nat},dH key es i=some none->∀p∈es,sameKey key p.1=some false
 |[],_,_,p,hp=>by cases hp
 |(a,b)::es,i,h,p,hp=>by
  simp only[dH] at h;cases q:sameKey key a with
  |none=>rw[q] at h;cases h
  |some c=>
   cases c with
   |true=>simp only[q] at h;cases h
   |false=>
    simp only[q] at h;rcases List.mem_cons.1 hp with rfl|hp
    ·exact q
    ·exact Aw h p hp
theorem Es{key:AV}:∀{es:List<|AV×AV} {i j:Nat} {x:AV},dH key es i=some (some (j,x))->i<=j/\∃q,es[j - i]? =some q/\q.2=x/\sameKey key q.1=some true
 |[],_,_,_,h=>by simp[dH] at h
 |(a,b)::es,i,j,x,h=>by
  simp only[dH] at h;cases q:sameKey key a with
  |none=>rw[q] at h;cases h
  |some c=>
   cases c with
   |true=>
    simp only[q] at h;injection h with h;injection h with h;injection h with h1 h2;subst h1;subst h2
    exact⟨Nat.le_refl _,(a,b),by simp,rfl,q⟩
   |false=>simp only[q] at h;obtain⟨h1,p,h2,h3⟩:=Es h;refine⟨by omega,p,?_,h3⟩;rw[show j - i=(j - (i+1))+1 from by omega];simpa using h2
end
end Go.Rn
namespace Go.Rn
open Go.RowKit
theorem AG{a b:AV}(h:sameKey a b=some true)(c:AV):sameKey a c=sameKey b c:=by
 unfold sameKey at h;split at h<;>first|(cases h;done)|skip
 ·rename_i k x k' y;cases hk:decide (k=k') with
  |false=>rw[hk] at h;cases h
  |true=>
   rw[hk] at h;injection h with h
   have e1:=of_decide_eq_true hk;have e2:x=y:=by simpa using h
   rw[e1,e2]
 ·rename_i x y;injection h with h
  rw[bytes_beq] at h;have e:x.toList=y.toList:=by simpa using h
  cases c<;>first|rfl|simp only[sameKey,bytes_beq,e]
 ·rename_i x y;injection h with h
  have e:x=y:=by simpa using h
  rw[e]
theorem x9(a b:AV):sameKey a b=sameKey b a:=by
 cases a<;>cases b<;>first|rfl|skip
 ·rename_i x y;cases x<;>cases y<;>rfl
 ·rename_i k x k' y;by_cases e:k=k'
  ·subst e;show(match decide (k=k) with|true=>some (x == y)|false=>none)=(match decide (k=k) with|true=>some (y == x)|false=>none);rw[decide_eq_true (rfl:k=k)];show some (x == y)=some (y == x);rw[BEq.comm]
  ·show(match decide (k=k') with|true=>some (x == y)|false=>none)=(match decide (k'=k) with|true=>some (y == x)|false=>none);rw[decide_eq_false e,decide_eq_false<|Ne.symm e]
 ·rename_i x y;show some (x == y)=some (y == x);rw[bytes_beq,bytes_beq,BEq.comm]
theorem fK.at{es:List<|AV×AV}(h:fK es){i j:Nat}{p q:AV×AV}(hi:es[i]? =some p)(hj:es[j]? =some q)(bO:i≠j):sameKey p.1 q.1=some false:=by
 unfold fK at h;rw[List.pairwise_iff_getElem] at h;obtain⟨li,ei⟩:=List.getElem?_eq_some_iff.1 hi;obtain⟨lj,ej⟩:=List.getElem?_eq_some_iff.1 hj;rcases Nat.lt_or_ge i j with q'|q'
 ·have:=(h i j li lj q').1;rw[ei,ej] at this;exact this
 ·have:=(h j i lj li<|by omega).2;rw[ei,ej] at this;exact this
theorem AZ{ρ:ah}{a b:AV}{v u:Value}(h:sameKey a b=some true)(ha:VR ρ a v)(hb:VR ρ b u)(m:Nat):Instr.sameBits m v u=true:=by
 unfold sameKey at h;split at h<;>first|(cases h;done)|skip
 ·rename_i k x k' y;cases hk:decide (k=k') with
  |false=>rw[hk] at h;cases h
  |true=>
   rw[hk] at h;injection h with h
   simp only[VR] at ha hb;subst ha;subst hb;have e1:=of_decide_eq_true hk;subst e1;cases m<;>simpa[Instr.sameBits] using h
 ·injection h with h
  simp only[VR] at ha hb;subst ha;subst hb;cases m<;>simpa[Instr.sameBits] using h
 ·injection h with h
  simp only[VR] at ha hb;subst ha;subst hb;cases m<;>simpa[Instr.sameBits] using h
theorem EZ{ρ:ah}(m:Nat):∀{xs ys:List AV} {vs us:List Value},kI xs ys=true->aq ρ xs vs->aq ρ ys us->vs.length=us.length/\((vs.zip us).all fun(x,y)=>Instr.sameBits m x y)=true
 |[],[],vs,us,_,h1,h2=>by simp only[aq] at h1 h2;subst h1;subst h2;simp
 |[],_::_,_,_,h,_,_=>by simp[kI] at h
 |_::_,[],_,_,h,_,_=>by simp[kI] at h
 |x::xs,y::ys,vs,us,h,h1,h2=>by
  simp only[aq] at h1 h2;obtain⟨v,vs,rfl,a1,b1⟩:=h1;obtain⟨u,us,rfl,a2,b2⟩:=h2;simp only[kI] at h;cases e:sameKey x y with
  |none=>rw[e] at h;cases h
  |some c=>
   cases c with
   |false=>rw[e] at h;cases h
   |true=>rw[e] at h;obtain⟨p,q⟩:=EZ m h b1 b2;exact⟨by simp[p],by simp only[List.zip_cons_cons,List.all_cons,AZ e a1 a2 m,Bool.true_and];exact q⟩
theorem J2{ρ:ah}{a b:AV}{v u:Value}(h:sameBits a b=true)(ha:VR ρ a v)(hb:VR ρ b u)(m:Nat):Instr.sameBits (m+1) v u=true:=by
 unfold sameBits at h;split at h
 ·rename_i xs ys;simp only[VR] at ha hb;obtain⟨vs,rfl,h1⟩:=ha;obtain⟨us,rfl,h2⟩:=hb;obtain⟨p,q⟩:=EZ m h h1 h2;simp only[Instr.sameBits,Bool.and_eq_true,beq_iff_eq];exact⟨by simpa using p,q⟩
 ·split at h
  ·rename_i e;exact AZ e ha hb _
  ·cases h
theorem FP{P:Program}{w:World}{v u:Value}(h:Instr.sameBits 10000 v u=true):(Instr.keyThatStays v u).run P w= .ok u w:=by simp[Instr.keyThatStays,h]
theorem EG{kd:TypeDesc}{v:Value}:∀{l:List MapEntry} {i:Nat},(∀e∈l,Instr.sameNow kd v e.key=some false)->Instr.findNow kd v l i=some none
 |[],_,_=>rfl
 |e::l,i,h=>by simp only[Instr.findNow,h e List.mem_cons_self];exact EG fun e he=>h e<|List.mem_cons_of_mem _ he
theorem EH{kd:TypeDesc}{v:Value}:∀{l:List MapEntry} {i:Nat},(∀e∈l,∃c,Instr.sameNow kd v e.key=some c)->(∃e∈l,Instr.sameNow kd v e.key=some true)->
 ∃j e,l[j]? =some e/\Instr.sameNow kd v e.key=some true/\Instr.findNow kd v l i=some (some (i+j,e.val))
 |[],_,_,h=>by obtain⟨_,h,_⟩:=h;cases h
 |e::l,i,h,k=>by
  obtain⟨c,hc⟩:=h e List.mem_cons_self;cases c with
  |true=>exact⟨0,e,rfl,hc,by simp only[Instr.findNow,hc,Nat.add_zero]⟩
  |false=>
   obtain⟨e2,h2,h3⟩:=k;have jI:e2∈l:=by
    rcases List.mem_cons.1 h2 with rfl|h2
    ·rw[hc] at h3;cases h3
    ·exact h2
   obtain⟨j,e3,g1,g2,g3⟩:=EH (i:=i+1) (fun e he=>h e<|List.mem_cons_of_mem _ he) ⟨e2,jI,h3⟩;exact⟨j+1,e3,by simpa using g1,g2,by simp only[Instr.findNow,hc];rw[g3];congr 3;omega⟩
section
variable {P:Program} {B:aC} {ρ:ah} {w:World} {s s1:AS} {x:AV} {Sy:aD} {t:Tr AV} {ev:Operand->Value} {o:Oper}
theorem cq.get:∀{es:List<|AV×AV} {l:List MapEntry} {i:Nat} {e:MapEntry},cq ρ es l->l[i]? =some e->∃p,es[i]? =some p/\VR ρ p.1 e.key/\VR ρ p.2 e.val
 |[],l,i,e,h,k=>by have h':l=[]:=h;subst h';simp at k
 |p::es,l,i,e,h,k=>by
  obtain⟨e2,l2,rfl,h1,h2,h3⟩:=h;cases i with
  |zero=>simp at k;subst k;exact⟨p,rfl,h1,h2⟩
  |succ i=>simp at k;obtain⟨q,g1,g2⟩:=h3.get k;exact⟨q,by simpa using g1,g2⟩
theorem cq.get'{es:List<|AV×AV}{l:List MapEntry}{i:Nat}{p:AV×AV}(h:cq ρ es l)(k:es[i]? =some p):∃e,l[i]? =some e/\VR ρ p.1 e.key/\VR ρ p.2 e.val:=by obtain⟨li,ei⟩:=List.getElem?_eq_some_iff.1 k;have hl:=h.length;have hi:l[i]? =some (l[i]'(by omega)):=List.getElem?_eq_getElem _;obtain⟨q,g1,g2⟩:=h.get hi;rw[k] at g1;cases g1;exact⟨_,hi,g2⟩
theorem E0{k:TypeId}{kd:TypeDesc}{key:AV}{v:Value}{es:List<|AV×AV}{l l':List MapEntry}{r:Option<|Nat×AV}(hk:P.underlying k=some kd)(hp:plainKey P k key=true)(hv:VR ρ key v)(ka:fK es)(he:cq ρ es l')(hl:l.Perm l')(h:dH key es 0=some r):
 (r=none->Instr.findNow kd v l 0=some none)/\(∀j y,r=some (j,y)->∃j' e,Instr.findNow kd v l 0=some (some (j',e.val))/\l[j']? =some e/\l'[j]? =some e/\VR ρ y e.val/\∃p,es[j]? =some p/\sameKey key p.1=some true):=by
 have I:∀e∈l,∃(j:Nat) (p:AV×AV),l'[j]? =some e/\es[j]? =some p/\VR ρ p.1 e.key/\VR ρ p.2 e.val:=by
  intro e hm;obtain⟨j,hj,e1⟩:=List.getElem_of_mem<|hl.mem_iff.1 hm;have lv:l'[j]? =some e:=by rw[List.getElem?_eq_getElem hj,e1]
  obtain⟨p,g1,g2,g3⟩:=he.get lv;exact⟨j,p,lv,g1,g2,g3⟩
 constructor
 ·intro hr;subst hr;refine EG fun e hm=>?_;obtain⟨j,p,g1,g2,g3,g4⟩:=I e hm;exact uY hk hp (Aw h p<|List.mem_of_getElem? g2) hv g3
 ·intro j y hr;subst hr;obtain⟨_,q,h1,h2,h3⟩:=Es h;rw[Nat.sub_zero] at h1;have all:∀e∈l,∃(j2:Nat) (p:AV×AV),l'[j2]? =some e/\es[j2]? =some p/\VR ρ p.2 e.val/\Instr.sameNow kd v e.key=some (decide<|j2=j):=by
   intro e hm;obtain⟨j2,p,g1,g2,g3,g4⟩:=I e hm;refine⟨j2,p,g1,g2,g4,?_⟩;by_cases e2:j2=j
   ·subst e2;rw[h1] at g2;cases g2;simp only[decide_true];exact uY hk hp h3 hv g3
   ·rw[decide_eq_false e2];refine uY hk hp ?_ hv g3;rw[AG h3];exact ka.at h1 g2<|Ne.symm e2
  obtain⟨e0,g1,g2,g3⟩:=he.get' h1;have pQ:e0∈l:=hl.mem_iff.2<|List.mem_of_getElem? g1;obtain⟨j',e,f1,f2,f3⟩:=EH (kd:=kd) (v:=v) (l:=l) (i:=0) (fun e hm=>let ⟨_,_,_,_,_,h⟩:=all e hm;⟨_,h⟩) ⟨e0,pQ,uY hk hp h3 hv g2⟩;rw[Nat.zero_add] at f3;obtain⟨j2,p,a1,a2,a3,a4⟩:=all e<|List.mem_of_getElem? f1;rw[f2] at a4;injection a4 with a4
  have e2:j2=j:=by simpa using a4.symm
  subst e2;rw[h1] at a2;cases a2;exact⟨j',e,f3,f1,a1,by rw[←h2];exact a3,q,h1,h3⟩
theorem K9{es:List<|AV×AV}{l l':List MapEntry}(h:short es=true)(he:cq ρ es l')(hl:l.Perm l'):cq ρ es l:=by
 have hlen:=he.length;unfold short at h;split at h<;>first|(cases h;done)|skip
 ·have:l'=[]:=by cases l'<;>first|rfl|simp at hlen
  subst this;rw[List.perm_nil.1 hl];exact he
 ·match l',hlen,hl,he with
  |[e],_,hl,he=>rw[List.perm_singleton.1 hl];exact he
theorem VR.nn{ok b:Bool}{y:AV}{v:Value}(h:VR ρ y v):VR ρ (nn ok y b) (if ok=true then .tuple #[v,.bool b] else v):=by
 cases ok with
 |false=>exact h
 |true=>simp only[Rn.nn,if_true,VR,aq];exact⟨_,rfl,v,_,rfl,h,.bool b,_,rfl,rfl,rfl⟩
theorem A0:∀{d:Nat} {k:TypeId} {key:AV},fh P d k key=true->∃kd,P.underlying k=some kd
 |0,_,_,h=>by simp only[fh] at h;cases h
 |d+1,k,key,h=>by
  simp only[fh] at h;cases q:P.underlying k with
  |none=>rw[q] at h;cases h
  |some kd=>exact⟨kd,rfl⟩
theorem Kf{ty:TypeId}{a key:AV}{ok:Bool}{va vk:Value}(ha:VR ρ a va)(jz:VR ρ key vk)(fi:aO s)(r:Rel B ρ s.h w)(h:jR P ty a key ok s= .ok x s1):
 dT P B ρ s s1 w x (Instr.lookup ty va vk ok):=by
 unfold jR at h;cases e1:P.underlying ty with
 |none=>simp only[e1] at h;cases h
 |some d=>
  cases d<;>simp only[e1] at h<;>first|(cases h;done)|skip
  rename_i k e;obtain⟨es,s2,h1,h2⟩:=M.aI h;obtain⟨h3,h4⟩:=bM h2;obtain⟨f,h5,h6⟩:=aX h4;have ly:∃kd,P.underlying k=some kd:=by exact A0 h3
  obtain⟨kd,ly⟩:=ly;have nu:∀em,(Instr.checkKey em 10000 k vk).run P w= .ok () w:=fun em=>yu h3 jz;have main:∃l:Array MapEntry,((va= .map none/\l= #[])\/∃b aK,va= .map (some b)/\w.heap[b]? =some (.map l aK))/\s2.h=s.h/\s2.nx=s.nx/\
   ∃r',(Instr.findKey k vk l.toList).run P w= .ok r' w/\(f=none->r'=none)/\(∀j y,f=some (j,y)->∃j' z,r'=some (j',z)/\VR ρ y z):=by
   have exact:∀l:Array MapEntry,cq ρ es l.toList->∃r',(Instr.findKey k vk l.toList).run P w= .ok r' w/\(f=none->r'=none)/\(∀j y,f=some (j,y)->∃j' z,r'=some (j',z)/\VR ρ y z):=by intro l he;obtain⟨r',g1,g2⟩:=EY (P:=P) (w:=w) ly jz he h5;refine⟨r',g1,fun q=>by subst q;exact g2,fun j y q=>?_⟩;subst q;obtain⟨z,_,_,q1,q2,_⟩:=g2;exact⟨j,z,q1,q2⟩
   unfold mN at h1;split at h1
   ·obtain⟨rfl,rfl⟩:=aM h1;simp only[VR] at ha;subst ha;exact⟨#[],.inl ⟨rfl,rfl⟩,rfl,rfl,exact #[] rfl⟩
   ·rename_i m;obtain⟨ob,s3,h7,h8⟩:=M.aI h1;obtain⟨hx,hg,hh,bj⟩:=dW h7;have ht:m<top:=Nat.lt_of_lt_of_le hx fi.nx;simp only[VR] at ha;obtain⟨b,N,hm,rfl⟩:=ha;obtain⟨o',hb,hO,_⟩:=r.block ht hg hm;cases ob with
    |map dD aK=>obtain⟨rfl,rfl⟩:=aM h8;obtain⟨l,rfl,_,q⟩:=hO;exact⟨l,.inr ⟨b,aK,rfl,hb⟩,hh,bj,exact l q.eqs⟩
    |cK dD=>
     obtain⟨h9,dF⟩:=bM h8;obtain⟨rfl,rfl⟩:=aM dF;obtain⟨l,aK,rfl,ka,_,l',hp,he⟩:=hO;refine⟨l,.inr ⟨b,aK,rfl,hb⟩,hh,bj,?_⟩;cases q:plainKey P k key with
     |false=>rw[q] at h9;exact exact l<|K9 h9 he hp
     |true=>
      unfold findKey at h5;have hz:iY _=true:=HC h5;simp only[hz] at h5;simp only[q] at h5;obtain⟨g1,g2⟩:=E0 ly q jz ka he hp h5;cases f with
      |none=>exact⟨none,MapKept.run_findKey ly<|g1 rfl,(fun _=>rfl),(fun j y e=>by cases e)⟩
      |some p=>obtain⟨j,y⟩:=p;obtain⟨j',e,f1,_,_,f2,_⟩:=g2 j y rfl;exact⟨some (j',e.val),MapKept.run_findKey ly f1,(fun e=>by cases e),(fun j y e2=>by cases e2;exact⟨j',_,rfl,f2⟩)⟩
    |_=>cases h8
   ·cases h1
  obtain⟨l,m1,m2,m3,r',m4,m5,m6⟩:=main;cases f with
  |some p=>
   obtain⟨j,y⟩:=p;obtain⟨rfl,rfl⟩:=aM h6;obtain⟨j',z,rfl,hz⟩:=m6 j y rfl;refine⟨ρ,w,_,by rw[m3];exact Ext.refl _ _ _,?_,hz.nn,by rw[m2];exact r,bh.refl _ _⟩;rcases m1 with⟨rfl,rfl⟩|⟨b,aK,rfl,hb⟩
   ·simp only[Instr.lookup,Sem.run_bind,aR e1,Result.andThen_ok,nu,m4,Sem.run_pure]
   ·simp only[Instr.lookup,Sem.run_bind,aR e1,Result.andThen_ok,MapKept.run_getObj_map hb,nu,m4,Sem.run_pure]
  |none=>
   obtain⟨z,h7,h8⟩:=aX h6;obtain⟨rfl,rfl⟩:=aM h8;have:=m5 rfl;subst this;obtain⟨vz,g1,g2⟩:=qh (P:=P) (w:=w) ρ h7;refine⟨ρ,w,_,by rw[m3];exact Ext.refl _ _ _,?_,g2.nn,by rw[m2];exact r,bh.refl _ _⟩;rcases m1 with⟨rfl,rfl⟩|⟨b,aK,rfl,hb⟩
   ·simp only[Instr.lookup,Sem.run_bind,aR e1,Result.andThen_ok,nu,m4,Sem.run_pure,g1]
   ·simp only[Instr.lookup,Sem.run_bind,aR e1,Result.andThen_ok,MapKept.run_getObj_map hb,nu,m4,Sem.run_pure,g1]
theorem Kg{ty:TypeId}{y z:Operand}{ok:Bool}(he:∀x v,ak t x=some v->VR ρ v (ev x))(fi:aO s)(r:Rel B ρ s.h w)(h:jS P ty y z ok Sy t s= .ok x s1)(ho:o.op= .lookup ty y z ok):cU P B ρ s s1 w x<|execOp ev o:=by unfold jS at h;obtain⟨a,h1,h2⟩:=aX h;obtain⟨b,h3,h4⟩:=aX h2;have:=(Kf (P:=P) (he y a h1) (he z b h3) fi r h4).op;simpa only[execOp,ho] using this
end
end Go.Rn
namespace Go.Rn
open Go.RowKit
theorem FR:∀(es:List<|AV×AV) (i j:Nat) (k v:AV),(putAt es i k v)[j]? =if j=i then(es[j]?).map (fun _=>(k,v)) else es[j]?
 |[],i,j,k,v=>by simp[putAt]
 |p::es,0,j,k,v=>by cases j<;>simp[putAt]
 |p::es,i+1,j,k,v=>by
  cases j with
  |zero=>simp[putAt]
  |succ j=>simp[putAt,FR es i j k v]
theorem EI:∀(es:List<|AV×AV) (i:Nat) (k v:AV),(putAt es i k v).length=es.length
 |[],_,_,_=>rfl
 |_::_,0,_,_=>rfl
 |_::es,i+1,k,v=>by simp[putAt,EI es i k v]
def kF(k v:Value)(e:MapEntry):MapEntry:={e with key:=k,val:=v}
theorem eC.put{ρ:ah}{key val:AV}{vk vv:Value}(hk:VR ρ key vk)(hv:VR ρ val vv):∀{es:List<|AV×AV} {l:List MapEntry} {n i:Nat},eC ρ es l n->eC ρ (putAt es i key val) (l.modify i<|kF vk vv) n
 |[],l,n,i,h=>by have h':l=[]:=h;subst h';cases i<;>rfl
 |p::es,l,n,0,h=>by obtain⟨e,l',rfl,a,b,c,d⟩:=h;exact⟨kF vk vv e,l',rfl,hk,hv,c,d⟩
 |p::es,l,n,i+1,h=>by obtain⟨e,l',rfl,a,b,c,d⟩:=h;exact⟨e,l'.modify i<|kF vk vv,rfl,a,b,c,d.put hk hv⟩
theorem cq.put{ρ:ah}{key val:AV}{vk vv:Value}(hk:VR ρ key vk)(hv:VR ρ val vv):∀{es:List<|AV×AV} {l:List MapEntry} {i:Nat},cq ρ es l->cq ρ (putAt es i key val) (l.modify i<|kF vk vv)
 |[],l,i,h=>by have h':l=[]:=h;subst h';cases i<;>rfl
 |p::es,l,0,h=>by obtain⟨e,l',rfl,a,b,d⟩:=h;exact⟨kF vk vv e,l',rfl,hk,hv,d⟩
 |p::es,l,i+1,h=>by obtain⟨e,l',rfl,a,b,d⟩:=h;exact⟨e,l'.modify i<|kF vk vv,rfl,a,b,d.put hk hv⟩
theorem eC.push{ρ:ah}{key val:AV}{e:MapEntry}(hk:VR ρ key e.key)(hv:VR ρ val e.val):∀{es:List<|AV×AV} {l:List MapEntry} {n:Nat},eC ρ es l n->e.born=n+es.length->eC ρ (es++[(key,val)]) (l++[e]) n
 |[],l,n,h,hb=>by have h':l=[]:=h;subst h';exact⟨e,[],rfl,hk,hv,hb,rfl⟩
 |p::es,l,n,h,hb=>by obtain⟨e2,l',rfl,a,b,c,d⟩:=h;exact⟨e2,l'++[e],rfl,a,b,c,d.push hk hv (by simp at hb;omega)⟩
theorem cq.push{ρ:ah}{key val:AV}{e:MapEntry}(hk:VR ρ key e.key)(hv:VR ρ val e.val):∀{es:List<|AV×AV} {l:List MapEntry},cq ρ es l->cq ρ (es++[(key,val)]) (l++[e])
 |[],l,h=>by have h':l=[]:=h;subst h';exact⟨e,[],rfl,hk,hv,rfl⟩
 |p::es,l,h=>by obtain⟨e2,l',rfl,a,b,d⟩:=h;exact⟨e2,l'++[e],rfl,a,b,d.push hk hv⟩
theorem fK.of{es:List<|AV×AV}(h:∀(i j:Nat) (p q:AV×AV),i≠j->es[i]? =some p->es[j]? =some q->sameKey p.1 q.1=some false):fK es:=by unfold fK;rw[List.pairwise_iff_getElem];intro i j hi hj dq;exact⟨h i j _ _ (by omega) (List.getElem?_eq_getElem hi)<|List.getElem?_eq_getElem hj,h j i _ _ (by omega) (List.getElem?_eq_getElem hj)<|List.getElem?_eq_getElem hi⟩
theorem fK.put{es:List<|AV×AV}(h:fK es){i:Nat}{p:AV×AV}{key val:AV}(hi:es[i]? =some p)(hk:sameKey key p.1=some true):fK<|putAt es i key val:=by
 refine fK.of fun j k a b QW ha hb=>?_;rw[FR] at ha hb;by_cases e1:j=i
 ·have e2:k≠i:=by omega
  rw[if_pos e1,e1,hi] at ha;rw[if_neg e2] at hb;simp only[Option.map_some,Option.some.injEq] at ha;rw[←ha];show sameKey key b.1=some false;rw[AG hk];exact h.at hi hb<|Ne.symm e2
 ·rw[if_neg e1] at ha;by_cases e2:k=i
  ·rw[if_pos e2,e2,hi] at hb;simp only[Option.map_some,Option.some.injEq] at hb;rw[←hb];show sameKey a.1 key=some false;rw[x9,AG hk];exact h.at hi ha<|Ne.symm e1
  ·rw[if_neg e2] at hb;exact h.at ha hb QW
theorem fK.push{es:List<|AV×AV}(h:fK es){key val:AV}(hk:∀p∈es,sameKey key p.1=some false):fK<|es++[(key,val)]:=by unfold fK at h ⊢;rw[List.pairwise_append];refine⟨h,by simp,fun a ha b hb=>?_⟩;simp only[List.mem_singleton] at hb;subst hb;exact⟨by rw[x9];exact hk a ha,hk a ha⟩
theorem BA{α:Type}(f:α->α):∀{l:List α} {j:Nat} {e:α},l[j]? =some e->l.Perm (e::l.eraseIdx j)/\(l.modify j f).Perm (f e::l.eraseIdx j)
 |[],j,e,h=>by simp at h
 |a::l,0,e,h=>by simp at h;subst h;exact⟨List.Perm.refl _,List.Perm.refl _⟩
 |a::l,j+1,e,h=>by
  simp at h;obtain⟨p,q⟩:=BA f h;refine⟨?_,?_⟩
  ·exact(p.cons a).trans<|List.Perm.swap _ _ _
  ·rw[List.modify_succ_cons];exact(q.cons a).trans<|List.Perm.swap _ _ _
theorem LB{α:Type}(f:α->α){l l':List α}{i j:Nat}{e:α}(hl:l.Perm l')(hi:l[i]? =some e)(hj:l'[j]? =some e):(l.modify i f).Perm<|l'.modify j f:=by obtain⟨p,q⟩:=BA f hi;obtain⟨p',q'⟩:=BA f hj;have:=((p.symm.trans hl).trans p').cons_inv;exact(q.trans<|this.cons _).trans q'.symm
theorem AP(k v:Value):∀(l:List MapEntry) (i:Nat),(l.modify i<|kF k v).map (·.born)=l.map (·.born)
 |[],i=>by cases i<;>rfl
 |e::l,0=>rfl
 |e::l,i+1=>by rw[List.modify_succ_cons];simp[AP k v l i]
theorem kK.modify{l:List MapEntry}{aK:Nat}(h:kK l aK)(k v:Value)(i:Nat):kK (l.modify i<|kF k v) aK:=by refine⟨by rw[AP];exact h.1,fun e he=>?_⟩;have:e.born∈(l.modify i<|kF k v).map (·.born):=List.mem_map_of_mem he;rw[AP] at this;obtain⟨e2,h2,h3⟩:=List.mem_map.1 this;rw[←h3];exact h.2 e2 h2
theorem kK.push{l:List MapEntry}{aK:Nat}(h:kK l aK){e:MapEntry}(he:e.born=aK):kK (l++[e])<|aK+1:=by
 refine⟨?_,fun e2 h2=>?_⟩
 ·rw[List.map_append,List.nodup_append];refine⟨h.1,by simp,fun a ha b hb=>?_⟩;simp only[List.map_cons,List.map_nil,List.mem_singleton] at hb;obtain⟨e2,h2,h3⟩:=List.mem_map.1 ha;have:=h.2 e2 h2;omega
 ·rcases List.mem_append.1 h2 with h2|h2
  ·have:=h.2 e2 h2;omega
  ·simp only[List.mem_singleton] at h2;subst h2;omega
section
variable {P:Program} {B:aC} {ρ:ah} {w:World} {s s1:AS} {x:AV} {Sy:aD} {t:Tr AV} {ev:Operand->Value} {o:Oper}
theorem qi{w:World}{b:Nat}{o o':Obj}(hb:w.heap[b]? =some o):
 nX b w {w with heap:=w.heap.setIfInBounds b o'}/\({w with heap:=w.heap.setIfInBounds b o'}:World).heap[b]? =some o':=by
 refine⟨⟨rfl,rfl,rfl,by simp,fun k hk=>?_⟩,?_⟩
 ·show(w.heap.setIfInBounds b o')[k]? =w.heap[k]?;rw[Array.getElem?_setIfInBounds_ne<|by omega]
 ·show(w.heap.setIfInBounds b o')[b]? =some o';exact Array.getElem?_setIfInBounds_self_of_lt<|ff hb
theorem La{ty:TypeId}{m key val:AV}{vm vk vv:Value}{u:Unit}(hm:VR ρ m vm)(jz:VR ρ key vk)(gF:VR ρ val vv)(fi:aO s)(r:Rel B ρ s.h w)(h:iJ P ty m key val s= .ok u s1):
 s1.nx=s.nx/\∃w',(Instr.mapUpdate ty vm vk vv).run P w= .ok () w'/\Rel B ρ s1.h w'/\bh B w w':=by
 unfold iJ at h;cases e1:P.underlying ty with
 |none=>simp only[e1] at h;cases h
 |some d=>
  cases d<;>simp only[e1] at h<;>first|(cases h;done)|skip
  rename_i k e;cases m<;>first|(cases h;done)|skip
  rename_i q;cases q with
  |none=>cases h
  |some n=>
   simp only[VR] at hm;obtain⟨b,N,hn,rfl⟩:=hm;obtain⟨ob,s2,h1,h2⟩:=M.aI h;obtain⟨hx,hg,hh,bj⟩:=dW h1;have ht:n<top:=Nat.lt_of_lt_of_le hx fi.nx;obtain⟨o',hb,hO,hB⟩:=r.block ht hg hn;cases ob with
   |map es aK=>
    obtain⟨h3,h4⟩:=bM h2;obtain⟨f,h5,h6⟩:=aX h4;obtain⟨l,rfl,tD,he⟩:=hO;obtain⟨kd,ly⟩:=A0 h3;have nu:∀em,(Instr.checkKey em 10000 k vk).run P w= .ok () w:=fun em=>yu h3 jz;obtain⟨r',g1,g2⟩:=EY (P:=P) (w:=w) ly jz he.eqs h5;cases f with
    |some p=>
     obtain⟨j,y⟩:=p;obtain⟨z,q,e0,rfl,_,_,q1,q2,q3,_,_⟩:=g2;rw[Nat.sub_zero] at q1 q2;obtain⟨bD,h7,h8⟩:=aX (show(aA es[j]? fun bD=>ay (sameBits bD.1 key) <| aZ n<|some<|.map (putAt es j key val) aK) s2= .ok u s1 from h6);obtain⟨h9,dF⟩:=bM h8;rw[q1] at h7;cases h7;have CG:=J2 h9 q3 jz 9999;obtain⟨_,_,_,i1,i2⟩:=gj dF;obtain⟨g3,g4⟩:=qi (o':=.map (l.modify j<|kF vk vv) aK) hb;refine⟨by rw[i2,bj],_,?_,?_,g3.below<|hB rfl⟩
     ·have hl:l[j]? =some e0:=by simpa using q2
      simp only[Instr.mapUpdate,Sem.run_bind,aR e1,Result.andThen_ok,MapKept.run_getObj_map hb,nu,g1,hl,Option.map_some,Option.getD_some,FP CG,MapKept.run_setObj_map _ hb];rfl
     ·rw[i1,hh];refine r.put ht hg rfl rfl hn rfl g3 g4 ⟨_,rfl,by rw[EI];exact tD,?_⟩;rw[Array.toList_modify];exact he.put jz gF
    |none=>
     have DA:r'=none:=g2;subst DA;obtain⟨_,_,_,i1,i2⟩:=gj (show aZ n (some<|.map (es++[(key,val)])<|aK+1) s2= .ok u s1 from h6);obtain⟨g3,g4⟩:=qi (o':=.map (l.push {key:=vk,val:=vv,born:=aK})<|aK+1) hb;refine⟨by rw[i2,bj],_,?_,?_,g3.below<|hB rfl⟩
     ·simp only[Instr.mapUpdate,Sem.run_bind,aR e1,Result.andThen_ok,MapKept.run_getObj_map hb,nu,g1,MapKept.run_setObj_map _ hb]
     ·rw[i1,hh];refine r.put ht hg rfl rfl hn rfl g3 g4 ⟨_,rfl,by simp[tD],?_⟩;rw[Array.toList_push];exact he.push jz gF (by simp[tD])
   |cK es=>
    obtain⟨h3,h4⟩:=bM h2;obtain⟨f,h5,h6⟩:=aX h4;obtain⟨hp,I0⟩:=and_true.1 h3;obtain⟨l,aK,rfl,ka,nw,l',hl,he⟩:=hO;obtain⟨kd,ly⟩:=A0 I0;have nu:∀em,(Instr.checkKey em 10000 k vk).run P w= .ok () w:=fun em=>yu I0 jz;unfold findKey at h5;have hz:iY _=true:=HC h5;simp only[hz] at h5;simp only[hp] at h5;obtain⟨f1,f2⟩:=E0 ly hp jz ka he hl h5;cases f with
    |some p=>
     obtain⟨j,y⟩:=p;obtain⟨j',e0,a1,a2,a3,a4,q,a5,a6⟩:=f2 j y rfl;obtain⟨_,_,_,i1,i2⟩:=gj (show aZ n (some<|.cK<|putAt es j key val) s2= .ok u s1 from h6);obtain⟨g3,g4⟩:=qi (o':=.map (l.modify j'<|kF vk vv) aK) hb;have hq:VR ρ q.1 e0.key:=by obtain⟨q',b1,b2,_⟩:=he.get a3;rw[a5] at b1;cases b1;exact b2
     have CG:Instr.sameBits 10000 e0.key vk=true:=AZ (by rw[x9];exact a6) hq jz 10000;refine⟨by rw[i2,bj],_,?_,?_,g3.below<|hB rfl⟩
     ·have gd:l[j']? =some e0:=by simpa using a2
      simp only[Instr.mapUpdate,Sem.run_bind,aR e1,Result.andThen_ok,MapKept.run_getObj_map hb,nu,MapKept.run_findKey ly a1,gd,Option.map_some,Option.getD_some,FP CG,MapKept.run_setObj_map _ hb];rfl
     ·rw[i1,hh];refine r.put ht hg rfl rfl hn rfl g3 g4 ⟨_,_,rfl,ka.put a5 a6,?_,l'.modify j<|kF vk vv,?_,he.put jz gF⟩
      ·rw[Array.toList_modify];exact nw.modify _ _ _
      ·rw[Array.toList_modify];exact LB _ hl a2 a3
    |none=>
     obtain⟨_,_,_,i1,i2⟩:=gj (show aZ n (some<|.cK<|es++[(key,val)]) s2= .ok u s1 from h6);obtain⟨g3,g4⟩:=qi (o':=.map (l.push {key:=vk,val:=vv,born:=aK})<|aK+1) hb;refine⟨by rw[i2,bj],_,?_,?_,g3.below<|hB rfl⟩
     ·simp only[Instr.mapUpdate,Sem.run_bind,aR e1,Result.andThen_ok,MapKept.run_getObj_map hb,nu,MapKept.run_findKey ly<|f1 rfl,MapKept.run_setObj_map _ hb]
     ·rw[i1,hh];refine r.put ht hg rfl rfl hn rfl g3 g4 ⟨_,_,rfl,ka.push<|Aw h5,?_,l'++[{key:=vk,val:=vv,born:=aK}],?_,cq.push (e:={key:=vk,val:=vv,born:=aK}) jz gF he⟩
      ·rw[Array.toList_push];exact nw.push rfl
      ·rw[Array.toList_push];exact hl.append_right _
   |_=>cases h2
theorem E1{ty:TypeId}{a b c:Operand}(he:∀x v,ak t x=some v->VR ρ v (ev x))(fi:aO s)(r:Rel B ρ s.h w)(h:gP P ty a b c Sy t s= .ok x s1)(ho:o.op= .mapUpdate ty a b c\/o.op= .insert ty a b c):cU P B ρ s s1 w x<|execOp ev o:=by unfold gP at h;obtain⟨m,h1,h2⟩:=aX h;obtain⟨k,h3,h4⟩:=aX h2;obtain⟨v,h5,h6⟩:=aX h4;obtain⟨u,s2,h7,h8⟩:=M.aI h6;obtain⟨rfl,rfl⟩:=aM h8;obtain⟨a1,w',a2,a3,a4⟩:=La (P:=P) (he a m h1) (he b k h3) (he c v h5) fi r h7;refine⟨ρ,w',.skip,by rw[a1];exact Ext.refl _ _ _,?_,rfl,a3,a4⟩;rcases ho with ho|ho<;>simp[execOp,ho,a2]
end
end Go.Rn
namespace Go.Rn
open Go.RowKit
section
variable {P:Program} {B:aC} {ρ:ah} {w:World} {s s1:AS} {x:AV} {Sy:aD} {t:Tr AV} {ev:Operand->Value} {o:Oper}
theorem eC.born:∀{es:List<|AV×AV} {l:List MapEntry} {n:Nat},eC ρ es l n->l.map (·.born)=List.range' n es.length
 |[],l,n,h=>by have h':l=[]:=h;subst h';rfl
 |p::es,l,n,h=>by obtain⟨e,l',rfl,a,b,c,d⟩:=h;rw[List.map_cons,c,d.born,List.length_cons,List.range'_succ]
theorem eC.HD{es:List<|AV×AV}{l:List MapEntry}(h:eC ρ es l 0):kK l es.length:=by have hb:=h.born;refine⟨by rw[hb];exact List.nodup_range',fun e he=>?_⟩;have:e.born∈l.map (·.born):=List.mem_map_of_mem he;rw[hb,List.mem_range'_1] at this;omega
theorem Rel.PS{h:Tr U}(r:Rel B ρ h w){n m:Nat}{p:U}{b N:Nat}{es:List<|AV×AV}{ex:Bool}{l:Array MapEntry}{aK:Nat}(I1:n<top)(Ac:ρ n=none)(jJ:m<top)(hg:h.get m=some p)(hp:p.plain=true)(bY:p.bN=false)(hm:ρ m=some (b,N))(hb:w.heap[b]? =some (.map l aK))(nw:kK l.toList aK)(h1:ex=true->aK=es.length/\eC ρ es l.toList 0)(h2:ex=false->fK es/\lh ρ es l.toList)(h3:lh ρ es l.toList):
 Rel B (dM ρ n (w.heap.size,1)) ((h.put m<|some .ep).put n<|some<|.iter m es ex es none) {w with heap:=w.heap.push<|.mapIter (some b) aK #[] aK}:=by
 have hl:ρ.le<|dM ρ n (w.heap.size,1):=kJ Ac;have lp:m≠n:=by intro e;subst e;rw[hm] at Ac;cases Ac
 have eX:h.get n=none:=by
  cases e:h.get n with
  |none=>rfl
  |some p=>obtain⟨_,_,_,h1,_⟩:=r.is n p I1 e;rw[Ac] at h1;cases h1
 have g:∀k,k<top->((h.put m<|some .ep).put n<|some<|.iter m es ex es none).get k=if k=n then some (.iter m es ex es none) else if k=m then some .ep else h.get k:=by intro k hk;rw[Tr.cJ _ _ _ _ I1 hk,Tr.cJ _ _ _ _ jJ hk]
 have hw:∀k,k<w.heap.size->(w.heap.push<|.mapIter (some b) aK #[] aK)[k]? =w.heap[k]? :=(dj.alloc w _).block;obtain⟨_,_,_,hB⟩:=r.block jJ hg hm;have size:∀k q,k<top->h.get k=some q->∀b1 N1,ρ k=some (b1,N1)->b1<w.heap.size:=by intro k q hk hq b1 N1 e;obtain⟨b2,N2,o2,e1,e2,_⟩:=r.is k q hk hq;rw[e] at e1;cases e1;exact ff e2
 have bD:∀k q,k<top->(if k=m then some U.ep else h.get k)=some q->∃q',h.get k=some q'/\(q.bN=false->q'.bN=false):=by
  intro k q hk hq;by_cases e:k=m
  ·subst e;exact⟨p,hg,fun _=>bY⟩
  ·rw[if_neg e] at hq;exact⟨q,hq,id⟩
 refine⟨?_,?_,?_,fun k hk=>r.size k<|Nat.le_trans (by simp) hk,?_,r.fz.of hl (fun b1 oD _=>hw b1 oD) (fun b1 oD hn j q M hj hq da e=>by
  rw[g j hj] at hq;by_cases a:j=n
  ·subst a;rw[eQ] at e;cases e;exact absurd oD (Nat.lt_irrefl _)
  ·rw[if_neg a] at hq;rw[fW ρ _ a] at e;obtain⟨q',e1,e2⟩:=bD j q hj hq;exact hn j q' M hj e1 (e2 da) e),r.tk.of hl (fun j q hj hq kT=>by
  rw[g j hj] at hq;by_cases a:j=n
  ·rw[if_pos a] at hq;cases hq;cases kT
  ·rw[if_neg a] at hq;by_cases a2:j=m
   ·rw[if_pos a2] at hq;cases hq;cases kT
   ·rw[if_neg a2] at hq;exact hq) (by simp) (fun b1 oD _=>hw b1 oD) (fun b1 oD hn j q M hj hq da e=>by
  rw[g j hj] at hq;by_cases a:j=n
  ·subst a;rw[eQ] at e;cases e;exact absurd oD (Nat.lt_irrefl _)
  ·rw[if_neg a] at hq;rw[fW ρ _ a] at e;obtain⟨q',e1,e2⟩:=bD j q hj hq;exact hn j q' M hj e1 (e2 da) e) (fun j x sh _ _ e=>by rw[fW ρ _ (by have:=eR j x sh;omega)];exact e)⟩
 ·intro k q hk hq;rw[g k hk] at hq;by_cases e:k=n
  ·subst e;rw[if_pos rfl] at hq;cases hq;refine⟨w.heap.size,1,.mapIter (some b) aK #[] aK,eQ _ _ _,by simp,?_,fun _=>r.size _<|Nat.le_refl _⟩;exact⟨b,N,aK, #[],hl _ _ hm,rfl⟩
  ·rw[if_neg e] at hq;by_cases e2:k=m
   ·subst e2;rw[if_pos rfl] at hq;cases hq;exact⟨b,N,_,hl _ _ hm,(hw b<|ff hb).trans hb,⟨l,aK,rfl⟩,fun _=>hB bY⟩
   ·rw[if_neg e2] at hq;obtain⟨b1,N1,o1,c1,c2,c3,c4⟩:=r.is k q hk hq;exact⟨b1,N1,o1,hl _ _ c1,(hw b1<|ff c2).trans c2,c3.mono hl,c4⟩
 ·intro k j q q' b1 N1 M1 hk hj hq cZ b8 e1 e2;rw[g k hk] at hq;rw[g j hj] at cZ;by_cases a1:k=n
  ·by_cases a2:j=n
   ·omega
   ·rw[if_neg a2] at cZ;subst a1;rw[eQ] at e1;cases e1;rw[fW ρ _ a2] at e2;obtain⟨q2,xk,xl⟩:=bD j q' hj cZ;exact absurd (size j q2 hj xk _ _ e2)<|Nat.lt_irrefl _
  ·rw[if_neg a1] at hq;rw[fW ρ _ a1] at e1;obtain⟨q1,Ad,ny⟩:=bD k q hk hq;by_cases a2:j=n
   ·subst a2;rw[eQ] at e2;cases e2;exact absurd (size k q1 hk Ad _ _ e1)<|Nat.lt_irrefl _
   ·rw[if_neg a2] at cZ;rw[fW ρ _ a2] at e2;obtain⟨q2,xk,xl⟩:=bD j q' hj cZ;exact r.one k j q1 q2 b1 N1 M1 hk hj Ad xk (b8.imp ny xl) e1 e2
 ·intro i m' dD eW left cur hi hq;rw[g i hi] at hq;by_cases e:i=n
  ·subst e;rw[if_pos rfl] at hq;cases hq;refine⟨jJ,by rw[g m jJ,if_neg lp,if_pos rfl],?_⟩;refine⟨w.heap.size,1,b,N,l,aK, #[],eQ _ _ _,hl _ _ hm,by simp,(hw b<|ff hb).trans hb,nw,fun e=>⟨(h1 e).1,(h1 e).2.mono hl⟩,fun e=>⟨(h2 e).1,(h2 e).2.mono hl⟩,?_,rfl⟩;have:(l.toList.filter fun e=> !(#[]:Array Nat).contains e.born)=l.toList:=List.filter_eq_self.2 (by simp);rw[this];exact h3.mono hl
  ·rw[if_neg e] at hq;by_cases e2:i=m
   ·subst e2;rw[if_pos rfl] at hq;cases hq
   ·rw[if_neg e2] at hq;obtain⟨cO,dy,b1,N1,bm,M,l1,N6,seen,c1,c2,c3,c4,c5⟩:=r.iter i m' dD eW left cur hi hq;have d1:m'≠n:=by intro e3;subst e3;rw[eX] at dy;cases dy
    refine⟨cO,?_,hZ.mono hl ⟨b1,N1,bm,M,l1,N6,seen,c1,c2,(hw b1<|ff c3).trans c3,(hw bm<|ff c4).trans c4,c5⟩⟩;rw[g m' cO,if_neg d1];by_cases d2:m'=m
    ·rw[if_pos d2]
    ·rw[if_neg d2];exact dy
 ·have new:∀i,i<top->∀pR pS py pG,(if i=m then some U.ep else h.get i)≠some (.iter m pR pS py pG):=by
   intro i hi pR pS py pG hq;by_cases e:i=m
   ·rw[if_pos e] at hq;cases hq
   ·rw[if_neg e] at hq;obtain⟨_,dy,_⟩:=r.iter i m _ _ _ _ hi hq;rw[hg] at dy;cases dy;simp[U.plain] at hp
  intro i j m' pR pS py pG pT Ae zr zE hi hj q1 q2;rw[g i hi] at q1;rw[g j hj] at q2;by_cases e:i=n
  ·by_cases e2:j=n
   ·omega
   ·rw[if_pos e] at q1;rw[if_neg e2] at q2;cases q1;exact absurd q2<|new j hj _ _ _ _
  ·rw[if_neg e] at q1;by_cases e2:j=n
   ·rw[if_pos e2] at q2;cases q2;exact absurd q1<|new i hi _ _ _ _
   ·rw[if_neg e2] at q2;by_cases e3:i=m
    ·rw[if_pos e3] at q1;cases q1
    ·rw[if_neg e3] at q1;by_cases e4:j=m
     ·rw[if_pos e4] at q2;cases q2
     ·rw[if_neg e4] at q2;exact r.lone i j m' _ _ _ _ _ _ _ _ hi hj q1 q2
theorem Kh{b:Nat}{m:Option Nat}{c c':Nat}{seen:Array Nat}(hb:w.heap[b]? =some (.mapIter m c seen c')):(getObj b).run P w= .ok (.mapIter m c seen c') w:=by simp[getObj,Sem.run,hb]
theorem Ki{ty:TypeId}{a:AV}{va:Value}(ha:VR ρ a va)(fi:aO s)(r:Rel B ρ s.h w)(hf:bH s.nx s1.nx ρ)(h:qH P ty a s= .ok x s1):dT P B ρ s s1 w x<|Instr.range ty va:=by
 unfold qH at h;cases e1:P.underlying ty with
 |none=>simp only[e1] at h;cases h
 |some d=>
  cases d<;>simp only[e1] at h<;>first|(cases h;done)|skip
  case string=>
   cases a<;>first|(cases h;done)|skip
   rename_i bs;simp only[VR] at ha;subst ha;obtain⟨n,s2,h1,h2⟩:=M.aI h;obtain⟨rfl,rfl⟩:=aM h2;obtain⟨ht,rfl,rfl⟩:=jQ h1;have dR:ρ s.nx=none:=hf s.nx (Nat.le_refl _) (Nat.lt_succ_self _) (by omega);refine⟨dM ρ s.nx (w.heap.size,0),_,.pointer<|some ⟨w.heap.size,0,none⟩,Ext.lq dR,?_,?_,r.new ht dR rfl (o':=.stringIter bs 0) rfl,(dj.alloc w<|.stringIter bs 0).below r.size⟩
   ·simp only[Instr.range,Sem.run_bind,aR e1,Result.andThen_ok,Sem.run_pure,newObj,Sem.run]
   ·simp only[VR];exact⟨_,_,eQ _ _ _,rfl⟩
  cases a<;>first|(cases h;done)|skip
  rename_i q;cases q with
  |none=>cases h
  |some m=>
   simp only[VR] at ha;obtain⟨b,N,hm,rfl⟩:=ha;obtain⟨ob,s2,h1,h2⟩:=M.aI h;obtain⟨hx,hg,hh,bj⟩:=dW h1;have jJ:m<top:=Nat.lt_of_lt_of_le hx fi.nx;obtain⟨o',hb,hO,hB⟩:=r.block jJ hg hm;have fin:∀(es:List<|AV×AV) (ex:Bool) (l:Array MapEntry) (aK:Nat),ob.plain=true->ob.bN=false->w.heap[b]? =some (.map l aK)->kK l.toList aK->(ex=true->aK=es.length/\eC ρ es l.toList 0)->(ex=false->fK es/\lh ρ es l.toList)->lh ρ es l.toList->
    ((aZ m<|some .ep).bind fun _=>(cN<|.iter m es ex es none).bind fun n=>M.pure<|.ptr<|some (n,0)) s2= .ok x s1->dT P B ρ s s1 w x (Instr.range ty<|.map<|some b):=by
    intro es ex l aK hp bY eD nw p1 p2 p3 h3;obtain⟨u,s3,h4,h5⟩:=M.aI h3;obtain⟨n,s4,h6,h7⟩:=M.aI h5;obtain⟨rfl,rfl⟩:=aM h7;obtain⟨_,_,_,i1,i2⟩:=gj h4;obtain⟨ht,rfl,rfl⟩:=jQ h6;have e:s3.nx=s.nx:=i2.trans bj;have dR:ρ s3.nx=none:=hf s3.nx (by omega) (Nat.lt_succ_self _) (by omega);refine⟨dM ρ s3.nx (w.heap.size,1),_,.pointer<|some ⟨w.heap.size,0,none⟩,?_,?_,?_,?_,(dj.alloc w<|.mapIter (some b) aK #[] aK).below r.size⟩
    ·rw[←e];exact Ext.lq dR
    ·simp only[Instr.range,Sem.run_bind,aR e1,Result.andThen_ok,MapKept.run_getObj_map eD,Sem.run_pure,newObj,Sem.run]
    ·simp only[VR];exact⟨_,_,eQ _ _ _,rfl⟩
    ·show Rel B _ (s3.h.put s3.nx<|some<|.iter m es ex es none) _;rw[i1,hh];exact r.PS ht dR jJ hg hp bY hm eD nw p1 p2 p3
   cases ob with
   |map es aK=>obtain⟨l,rfl,tD,he⟩:=hO;exact fin es true l aK rfl rfl hb (by rw[tD];exact he.HD) (fun _=>⟨tD,he⟩) (fun e=>by cases e) ⟨_,List.Perm.refl _,he.eqs⟩ h2
   |cK es=>obtain⟨l,aK,rfl,ka,nw,he⟩:=hO;exact fin es false l aK rfl rfl hb nw (fun e=>by cases e) (fun _=>⟨ka,he⟩) he h2
   |_=>cases h2
theorem Lb{ty:TypeId}{y:Operand}(he:∀x v,ak t x=some v->VR ρ v (ev x))(fi:aO s)(r:Rel B ρ s.h w)(hf:bH s.nx s1.nx ρ)(h:qS P ty y Sy t s= .ok x s1)(ho:o.op= .range ty y):cU P B ρ s s1 w x<|execOp ev o:=by unfold qS at h;obtain⟨a,h1,h2⟩:=aX h;have:=(Ki (P:=P) (he y a h1) fi r hf h2).op;simpa only[execOp,ho] using this
theorem find_born{e:MapEntry}:∀{l:List MapEntry},(l.map (·.born)).Nodup->e∈l->l.find? (·.born == e.born)=some e
 |[],_,h=>by cases h
 |a::l,hn,h=>by
  rw[List.map_cons,List.nodup_cons] at hn;rcases List.mem_cons.1 h with rfl|h
  ·simp
  ·have:(a.born == e.born)=false:=by rw[beq_eq_false_iff_ne];intro q;exact hn.1 (by rw[q];exact List.mem_map_of_mem h)
   rw[List.find?_cons,this];exact find_born hn.2 h
theorem Lc{y:Operand}(he:∀x v,ak t x=some v->VR ρ v (ev x))(fi:aO s)(r:Rel B ρ s.h w)(h:qT y Sy t s= .ok x s1)(ho:o.op= .entry y):cU P B ρ s s1 w x<|execOp ev o:=by
 unfold qT at h;obtain⟨a,h1,h2⟩:=aX h;have ha:=he y a h1;unfold tm at h2;split at h2
 ·rename_i n;obtain⟨ob,s2,h3,h4⟩:=M.aI h2;obtain⟨hx,hg,hh,bj⟩:=dW h3;have ht:n<top:=Nat.lt_of_lt_of_le hx fi.nx;split at h4
  ·rename_i m es ex left k v;obtain⟨rfl,rfl⟩:=aM h4;obtain⟨_,_,b,N,bm,M,l,aK,seen,c1,c2,c3,c4,c5,_,_,_,c9⟩:=r.iter n m es ex left _ ht hg;obtain⟨e,d1,d2,d3,d4⟩:=c9;simp only[VR] at ha;obtain⟨b',N',q1,q2⟩:=ha;rw[c1] at q1;cases q1;refine⟨ρ,w,.value<|.tuple #[e.key,e.val],by rw[bj];exact Ext.refl _ _ _,?_,?_,by rw[hh];exact r,bh.refl _ _⟩
   ·have hf:l.find? (·.born == e.born)=some e:=by rw[←Array.find?_toList];exact find_born c5.1 d1
    simp only[execOp,ho,q2,Instr.entry,Sem.run_bind,Kh c3,Result.andThen_ok,d2,MapKept.run_getObj_map c4,bne_self_eq_false,Bool.false_eq_true,if_false,hf,Sem.run_pure]
   ·simp only[VR,aq];exact⟨_,rfl,_,_,rfl,d3,_,_,rfl,d4,rfl⟩
  ·cases h4
 ·cases h2
theorem J3{y:Operand}(he:∀x v,ak t x=some v->VR ρ v (ev x))(fi:aO s)(r:Rel B ρ s.h w)(h:qw y Sy t s= .ok x s1)(ho:o.op= .next y true):cU P B ρ s s1 w x<|execOp ev o:=by
 unfold qw at h;obtain⟨a,h1,h2⟩:=aX h;have ha:=he y a h1;unfold tl at h2;split at h2
 ·rename_i n;obtain⟨ob,s2,h3,h4⟩:=M.aI h2;obtain⟨hx,hg,hh,bj⟩:=dW h3;have ht:n<top:=Nat.lt_of_lt_of_le hx fi.nx;split at h4
  ·rename_i bs pos;simp only[VR] at ha;obtain⟨b,N,eY,hv⟩:=ha;obtain⟨o',hb,hO,hB⟩:=r.block ht hg eY;have xm:o'= .stringIter bs pos:=hO;subst xm;have mq:(match Nat.blt pos bs.size with|true=>(aZ n<|some<|.qD bs<|pos+(Utf8.decode bs pos).2).bind fun _=>M.pure (.tuple [.bool true,.int .i64 pos,.int .i32 (Utf8.decode bs pos).1])|false=>M.pure (.tuple [.bool false]):M AV) s2= .ok x s1:=h4;cases aS:Nat.blt pos bs.size with
   |true=>
    rw[aS] at mq;have h4:=mq;have wx:pos<bs.size:=(blt_eq _ _).mp aS;obtain⟨u,s3,h5,h6⟩:=M.aI h4;obtain⟨rfl,rfl⟩:=aM h6;obtain⟨_,_,_,i1,i2⟩:=gj h5;obtain⟨g3,g4⟩:=qi (o':=.stringIter bs<|pos+(Utf8.decode bs pos).2) hb;refine⟨ρ,{w with heap:=w.heap.setIfInBounds b<|.stringIter bs<|pos+(Utf8.decode bs pos).2},.value<|.tuple #[.bool true,goInt pos,.int .i32 (Utf8.decode bs pos).1],by rw[i2,bj];exact Ext.refl _ _ _,?_,?_,?_,g3.below<|hB rfl⟩
    ·have wu:(setObj b<|.stringIter bs<|pos+(Utf8.decode bs pos).2).run P w= .ok () {w with heap:=w.heap.setIfInBounds b<|.stringIter bs<|pos+(Utf8.decode bs pos).2}:=by simp[setObj,Sem.run,hb]
     have fA:(getObj b).run P w= .ok (.stringIter bs pos) w:=by simp[getObj,Sem.run,hb]
     simp only[execOp,ho,hv,Instr.next,Sem.run_bind,fA,Result.andThen_ok,wx,if_true,wu,Sem.run_pure]
    ·simp only[VR,aq,goInt];exact⟨_,rfl,_,_,rfl,rfl,_,_,rfl,rfl,_,_,rfl,rfl,rfl⟩
    ·rw[i1,hh];exact r.put ht hg rfl rfl eY rfl g3 g4 rfl
   |false=>
    rw[aS] at mq;have h4:=mq;have wx:¬pos<bs.size:=by intro q;rw[(blt_eq _ _).mpr q] at aS;cases aS
    obtain⟨rfl,rfl⟩:=aM h4;have fA:(getObj b).run P w= .ok (.stringIter bs pos) w:=by simp[getObj,Sem.run,hb]
    refine⟨ρ,w,.value<|.tuple #[.bool false],by rw[bj];exact Ext.refl _ _ _,?_,?_,by rw[hh];exact r,bh.refl _ _⟩
    ·simp only[execOp,ho,hv,Instr.next,Sem.run_bind,fA,Result.andThen_ok,wx,if_false,Sem.run_pure]
    ·simp only[VR,aq];exact⟨_,rfl,_,_,rfl,rfl,rfl⟩
  ·cases h4
 ·cases h2
end
end Go.Rn
namespace Go.Rn
open Go.RowKit
def N7(P:Program)(l:Nat)(f:FuncId)(tmps:Array Value)(assign body:Code)(w:World)(R:Value->World->Prop):Prop:=∀(c:Frame) (cs:List Frame),∃v w',R v w'/\Steps P (lone (Frame.round l f tmps assign body .normal) (c::cs) w) (lone (c.finish v) cs w')
def fm(P:Program)(r:Result Next)(R:Value->World->Prop):Prop:=
 match r with
 | .ok (.value v) w=>R v w
 | .ok .skip w=>R undef w
 | .ok (.enter f args) w=>Calls P f args w fun e w'=>∃v,e= .returned v/\R v w'
 | .ok (.round l f tmps assign body) w=>N7 P l f tmps assign body w R
 |_=>False
def fM(B:aC)(ρ:ah)(s s1:AS)(w:World)(x:AV):Value->World->Prop:=fun v w'=>∃σ,Ext s.nx s1.nx ρ σ/\VR σ x v/\Rel B σ s1.h w'/\bh B w w'
structure dm (P:Program) (B:aC) (Sy:aD):Prop where
 fn:∀(f:FuncId) (args:List AV) (x:AV) (s s1:AS) (ρ:ah) (w:World) (vs:Array Value),aO s->Rel B ρ s.h w->dN ρ->bH s.nx s1.nx ρ->Sy (.fn f) args s= .ok x s1->aq ρ args vs.toList->
  fm P ((callFunc f vs).run P w) (fM B ρ s s1 w x)
 round:∀(l b N:Nat) (args:List AV) (x:AV) (s s1:AS) (ρ:ah) (w:World) (vs:Array Value),aO s->Rel B ρ s.h w->dN ρ->bH s.nx s1.nx ρ->Sy (.round l) args s= .ok x s1->aq ρ args vs.toList->
  ρ l=some (b,N)->fm P ((Instr.yield b vs).run P w) (fM B ρ s s1 w x)
 row:qV B Sy
section
variable {P:Program} {B:aC} {ρ:ah} {w:World} {s s1:AS} {x:AV} {Sy:aD} {t:Tr AV} {ev:Operand->Value} {o:Oper}
theorem cU.back{c:Sem Next}(h:cU P B ρ s s1 w x c):fm P (c.run P w)<|fM B ρ s s1 w x:=by
 obtain⟨σ,w',nv,a,b,d,e,f⟩:=h;rw[b];cases nv<;>first|(cases d;done)|skip
 ·exact⟨σ,a,d,e,f⟩
 ·exact⟨σ,a,by rw[d];exact VR.undef σ,e,f⟩
theorem VR.Gr{f:Fn}{a c:List AV}{v:Value}(h:VR ρ (.func f a c) v):GX f=true/\∃p q,v= .func f p q/\aq ρ a p.toList/\aq ρ c q.toList:=by simpa only[VR] using h
theorem LC{y:Operand}{args:Array Operand}{ts:Array TypeId}(hc:dm P B Sy)(he:∀x v,ak t x=some v->VR ρ v (ev x))(hg:dN ρ)(fi:aO s)(r:Rel B ρ s.h w)(hf:bH s.nx s1.nx ρ)(h:lX y args.toList Sy t s= .ok x s1)(ho:o.op= .call ⟨.value y,args,ts⟩):fm P ((execOp ev o).run P w)<|fM B ρ s s1 w x:=by
 unfold lX at h;obtain⟨l,h1,h2⟩:=aX h;obtain⟨f,h3,h4⟩:=aX h2;have hl:=tc he h1;have lz:=he y f h3;unfold ib at h4;split at h4
 ·rename_i g first captured
  obtain⟨_,p,q,e,hp,hq⟩:=lz.Gr;have vW:aq ρ (first++l++captured) (p++args.map ev++q).toList:=by rw[Array.toList_append,Array.toList_append];exact(hp.append<|by simpa using hl).append hq
  have:=hc.fn g _ x s s1 ρ w _ fi r hg hf h4 vW;simp only[execOp,ho,resolve,Deferred.ofValue,e,Sem.run_bind,Sem.run_pure,Result.andThen_ok,invoke];exact this
 ·rename_i n;have jG:=lz;simp only[VR] at jG;obtain⟨b,N,hn,e⟩:=jG;have:=hc.round n b N _ x s s1 ρ w (args.map ev) fi r hg hf h4 (by simpa using hl) hn;simp only[execOp,ho,resolve,Deferred.ofValue,e,Sem.run_bind,Sem.run_pure,Result.andThen_ok,invoke];simpa using this
 ·cases h4
theorem Ld{ty:TypeId}{name:String}{f:FuncId}{v:Value}{k:Nat}(h:BN P ty name=some f):(Go.method (k+1) ty v name).run P w= .ok (f,v) w:=by
 unfold BN at h;cases e1:P.info? ty with
 |none=>rw[e1] at h;cases h
 |some i=>
  simp only[e1] at h;cases e2:i.methods.toList.find? (·.name == name) with
  |none=>simp only[e2] at h;cases h
  |some m=>
   simp only[e2] at h;have e3:i.methods.find? (·.name == name)=some m:=by rw[←Array.find?_toList];exact e2
   split at h
   ·rename_i g ptr hp hm;have O1:m.path.toList=[]:=by
     have:m.path= #[]:=by simpa using hp
     rw[this]
    have hrecv:(receiverAt ty (.val v) ptr (if m.path.isEmpty=true then some ((name.splitOn ".").getLastD name) else none)).run P w= .ok v w/\g=f:=by
     split at h
     ·rename_i pt eu;injection h with h
      exact⟨by simp[receiverAt,aR eu,Place.get],h⟩
     ·cases h
     ·rename_i d hd eu;injection h with h
      refine⟨?_,h⟩;simp only[receiverAt,Sem.run_bind,aR eu,Result.andThen_ok];cases d<;>first|rfl|(exact absurd eu<|hd _)
     ·cases h
    rw[Go.method];simp only[Sem.run_bind,lE e1,Result.andThen_ok,e3,O1,follow,Sem.run_pure,hm,hrecv.1,hrecv.2]
   ·cases h
theorem Kj{ty:TypeId}{u:Value}{name:String}{va:Array Value}{g:FuncId}(hm:∀k,(Go.method (k+1) ty u name).run P w= .ok (g,u) w):
 (invoke (.fn (.method name) #[])<|#[.iface ty u]++va).run P w=(callFunc g<|#[u]++va).run P w:=by
 have e2:(#[Value.iface ty u]++va).extract 1 (#[Value.iface ty u]++va).size=va:=by apply Array.toList_inj.1;simp
 have e3:(#[Value.iface ty u]++va)[0]? =some (.iface ty u):=by rw[Array.getElem?_append_left<|by simp];rfl
 have O2:P.types.size+Made.depth=(P.types.size+Made.depth - 1)+1:=by
  have:0<Made.depth:=by decide
  omega
 have l4:(program).run P w= .ok P w:=rfl;simp only[invoke,e2,e3,callMethod,Sem.run_bind,l4,Result.andThen_ok];rw[O2,hm];rfl
theorem Kk{y:Operand}{name:String}{args:Array Operand}{ts:Array TypeId}(hc:dm P B Sy)(he:∀x v,ak t x=some v->VR ρ v (ev x))(hg:dN ρ)(fi:aO s)(r:Rel B ρ s.h w)(hf:bH s.nx s1.nx ρ)(h:qJ P y name args.toList Sy t s= .ok x s1)(ho:o.op= .call ⟨.invoke y name,args,ts⟩):fm P ((execOp ev o).run P w)<|fM B ρ s s1 w x:=by
 unfold qJ at h;obtain⟨l,h1,h2⟩:=aX h;obtain⟨f,h3,h4⟩:=aX h2;have hl:=tc he h1;have lz:=he y f h3;split at h4
 ·rename_i ty v;obtain⟨g,h5,h6⟩:=aX h4;simp only[VR] at lz;obtain⟨u,e,hu⟩:=lz;have vW:aq ρ (v::l) (#[u]++args.map ev).toList:=by simp only[Array.toList_append,aq];exact⟨u,(args.map ev).toList,by simp,hu,by simpa using hl⟩
  have:=hc.fn g _ x s s1 ρ w _ fi r hg hf h6 vW;have hm:∀k,(Go.method (k+1) ty u name).run P w= .ok (g,u) w:=fun k=>Ld h5;simp only[execOp,ho,resolve,Sem.run_bind,Sem.run_pure,Result.andThen_ok,e];rw[Kj (P:=P) (w:=w) hm];exact this
 ·cases h4
end
end Go.Rn
namespace Go.Rn
open Go.RowKit
section
variable {P:Program} {B:aC} {ρ:ah} {w:World} {s s1:AS} {x:AV} {Sy:aD} {t:Tr AV} {o:Oper}
theorem N8{a:Act}{nt:Nat}(hc:dm P B Sy)(hl:∀t a,Sx<|Sy t a)(ht:TR ρ nt t a.tmps)(hg:dN ρ)(fi:aO s)(r:Rel B ρ s.h w)(hf:bH s.nx s1.nx ρ)(h:(bz P o.op).val Sy t s= .ok x s1):
 (∀c,o.op≠ .defer c)/\fm P ((execOp a.eval o).run P w) (fM B ρ s s1 w x):=by
 have he:∀x v,ak t x=some v->VR ρ v (a.eval x):=fun x v=>vG ht hg;cases cz:o.op
 all_goals rw[cz] at h
 case move y=>exact⟨by simp,(FL (Sy:=Sy) he r h<|.inl cz).back⟩
 case assign y=>exact⟨by simp,(FL (Sy:=Sy) he r h<|.inr cz).back⟩
 case pick c p q=>exact⟨by simp,(Lu (Sy:=Sy) he r h cz).back⟩
 case alloc e=>exact⟨by simp,(Kz (Sy:=Sy) (t:=t) r hf h cz).back⟩
 case box e y=>exact⟨by simp,(Mr (Sy:=Sy) he r hf h cz).back⟩
 case build ty parts=>exact⟨by simp,(KJ (Sy:=Sy) he r h cz).back⟩
 case buildSlice ty len parts=>exact⟨by simp,(JB (Sy:=Sy) he r hf h cz).back⟩
 case load ty y=>exact⟨by simp,(Lv (Sy:=Sy) hc.row he fi r h cz).back⟩
 case store ty y z=>exact⟨by simp,(KG (Sy:=Sy) he fi r h cz).back⟩
 case nilCheck y=>exact⟨by simp,(JJ (Sy:=Sy) he r h cz).back⟩
 case binOp op ty y z u=>exact⟨by simp,(Ms (Sy:=Sy) he r h cz).back⟩
 case unOp op ty y=>exact⟨by simp,(Nk (Sy:=Sy) he r h cz).back⟩
 case convert src dst y=>exact⟨by simp,(JW (Sy:=Sy) he fi r h cz).back⟩
 case makeInterface ty y=>exact⟨by simp,(Jz (Sy:=Sy) he r h cz).back⟩
 case makeFunc fn first captured=>exact⟨by simp,(JK (Sy:=Sy) he r h cz).back⟩
 case makeMap ty y=>exact⟨by simp,(JX (Sy:=Sy) he r hf h cz).back⟩
 case makeSlice ty l c=>exact⟨by simp,(JH (Sy:=Sy) he r hf h cz).back⟩
 case slice ty y lo hi mx=>exact⟨by simp,(KZ (Sy:=Sy) he r h cz).back⟩
 case fieldAddr ty y f=>exact⟨by simp,(JE (Sy:=Sy) he r h cz).back⟩
 case field ty y f=>exact⟨by simp,(KX (Sy:=Sy) he r h cz).back⟩
 case indexAddr ty y z=>exact⟨by simp,(JF (Sy:=Sy) he r h cz).back⟩
 case index ty y z=>exact⟨by simp,(KY (Sy:=Sy) he r h cz).back⟩
 case lookup ty y z ok=>exact⟨by simp,(Kg (Sy:=Sy) he fi r h cz).back⟩
 case mapUpdate ty m k y=>exact⟨by simp,(E1 (Sy:=Sy) he fi r h<|.inl cz).back⟩
 case insert ty m k y=>exact⟨by simp,(E1 (Sy:=Sy) he fi r h<|.inr cz).back⟩
 case typeAssert y xt asserted ok=>exact⟨by simp,(Kc (Sy:=Sy) he r h cz).back⟩
 case range ty y=>exact⟨by simp,(Lb (Sy:=Sy) he fi r hf h cz).back⟩
 case entry y=>exact⟨by simp,(Lc (Sy:=Sy) he fi r h cz).back⟩
 case next y DI=>
  cases DI with
  |true=>exact⟨by simp,(J3 (Sy:=Sy) he fi r h cz).back⟩
  |false=>exact absurd (show(fail:M AV) s= .ok x s1 from h) (by intro e;cases e)
 case extract y i=>exact⟨by simp,(JY (Sy:=Sy) he r h cz).back⟩
 case call c=>
  obtain⟨callee,args,ts⟩:=c;cases callee with
  |builtin b=>exact⟨by simp,(J1 (Sy:=Sy) hc.row hl he fi r hf h cz).back⟩
  |value f=>exact⟨by simp,LC hc he hg fi r hf h cz⟩
  |invoke recv name=>exact⟨by simp,Kk hc he hg fi r hf h cz⟩
 all_goals (exact absurd (show(fail:M AV) s= .ok x s1 from h) (by intro e;cases e))
end
end Go.Rn
namespace Go.Rn
open Go.RowKit
section
variable {P:Program} {B:aC} {ρ:ah} {w:World} {s s1:AS} {x:AV} {Sy:aD} {t:Tr AV} {o:Oper}
theorem FT{f:AV}{args:List AV}{vf:Value}{vs:Array Value}(hc:dm P B Sy)(hg:dN ρ)(fi:aO s)(r:Rel B ρ s.h w)(hf:bH s.nx s1.nx ρ)(lz:VR ρ f vf)(hl:aq ρ args vs.toList)(h4:ib Sy f args s= .ok x s1):fm P ((do let d ←Deferred.ofValue vf vs;invoke d.target d.args:Sem Next).run P w)<|fM B ρ s s1 w x:=by
 unfold ib at h4;split at h4
 ·rename_i g first captured
  obtain⟨_,p,q,e,hp,hq⟩:=lz.Gr;have vW:aq ρ (first++args++captured) (p++vs++q).toList:=by rw[Array.toList_append,Array.toList_append];exact(hp.append hl).append hq
  have:=hc.fn g _ x s s1 ρ w _ fi r hg hf h4 vW;simp only[Deferred.ofValue,e,Sem.run_bind,Sem.run_pure,Result.andThen_ok,invoke];exact this
 ·rename_i n;have jG:=lz;simp only[VR] at jG;obtain⟨b,N,hn,e⟩:=jG;have:=hc.round n b N _ x s s1 ρ w vs fi r hg hf h4 hl hn;simp only[Deferred.ofValue,e,Sem.run_bind,Sem.run_pure,Result.andThen_ok,invoke];simpa using this
 ·cases h4
theorem Fo{ops:Array Oper}{i:Nat}{a:Act}{R:Value->World->Prop}(ho:ops[i]? =some o)(hw:Region.wanted o (yielded ops a.tmps)=true)(hd:∀c,o.op≠ .defer c)(h:fm P ((execOp a.eval o).run P w) R)(b:Frame)(k:List Item)(cs:List Frame)(rest:List Nat):
 ∃v w',R v w'/\Steps P (lone (b.atR a<|.inRegion ops (i::rest)::k) cs w) (lone (b.atR (a.put o.dst v)<|.inRegion ops rest::k) cs w'):=by
 have hg:=stepGR_op (P:=P) (b:=b) (k:=k) (cs:=cs) (w:=w) (rest:=rest) ho hw;rw[Oper.semAt_eq _ _ _ hd] at hg;have iq:∀v,(b.atR a<|.inRegion ops (i::rest)::k).finish v=b.atR (a.put o.dst v) (.inRegion ops rest::k):=by intro v;rw[Frame.finish_atR,ho];rfl
 generalize hr:(execOp a.eval o).run P w=res at h;unfold fm at h;split at h
 ·rename_i v w';refine⟨v,w',h,.one<|step_lone_go ?_⟩;rw[hg, ←iq];simp[stepG.apply,hr]
 ·rename_i w';refine⟨undef,w',h,.one<|step_lone_go ?_⟩;rw[hg, ←iq];simp[stepG.apply,hr]
 ·rename_i f args w';obtain⟨e,gz,fr,⟨v,rfl,hR⟩,qW,cw,Cb⟩:=h<|b.atR a (.inRegion ops (i::rest)::k)::cs;have qX:step P (lone (b.atR a<|.inRegion ops (i::rest)::k) cs w)= .next (lone (Frame.enter P f args .normal) (b.atR a (.inRegion ops (i::rest)::k)::cs) w'):=step_lone_go (by rw[hg];simp[stepG.apply,hr,Frame.atR])
  refine⟨v,gz,hR,.head qX<|Steps.trans qW<|.one ?_⟩;rw[←iq];exact step_leave_returned Cb
 ·rename_i l f tmps assign body w';obtain⟨v,gz,hR,qW⟩:=h (b.atR a<|.inRegion ops (i::rest)::k) cs;have qX:step P (lone (b.atR a<|.inRegion ops (i::rest)::k) cs w)= .next (lone (Frame.round l f tmps assign body .normal) (b.atR a (.inRegion ops (i::rest)::k)::cs) w'):=step_lone_go (by rw[hg];simp[stepG.apply,hr,Frame.atR])
  refine⟨v,gz,hR,.head qX ?_⟩;rw[←iq];exact qW
 ·cases h
theorem Kl{ops:Array Oper}{nt:Nat}{a:Act}(ht:TR ρ nt t a.tmps)(j:Nat)(hk:lP ops t j=true):yielded ops a.tmps j=vt ops t j:=by
 unfold lP at hk;unfold yielded vt;cases e1:ops[j]? with
 |none=>rfl
 |some q=>
  rw[e1] at hk;simp only[Option.bind_some];simp only at hk;cases e2:q.dst with
  |none=>rfl
  |some d=>
   rw[e2] at hk;simp only[Option.bind_some];simp only at hk;cases e4:t.get d with
   |none=>rw[e4] at hk;cases hk
   |some y=>
    have hv:=ht.2 d y e4;rw[Array.getD_eq_getD_getElem?] at hv;cases e3:a.tmps[d]? with
    |none=>rw[e3] at hv;cases y<;>first|rfl|(exfalso;simp only[Option.getD_none,VR,Go.undef] at hv;cases hv)
    |some v=>
     rw[e3] at hv;simp only[Option.getD_some] at hv;cases v with
     |bool c=>rw[G5 hv]
     |_=>cases y<;>first|rfl|(exfalso;simp only[VR] at hv;cases hv)
theorem Km{ops:Array Oper}{nt:Nat}{a:Act}{g:Nat×Bool}(ht:TR ρ nt t a.tmps)(hg:o.guard=some g)(hk:lP ops t g.1=true):Region.wanted o (yielded ops a.tmps)=jT ops g t:=by
 unfold Region.wanted jT;rw[hg];simp only[Kl ht g.1 hk];cases vt ops t g.1 with
 |none=>rfl
 |some b=>cases b<;>cases g.2<;>rfl
theorem td{nt:Nat}{dst:Option Tmp}{v:AV}{t1:Tr AV}(h:dY nt t dst v=some t1):(dst=none/\t1=t)\/∃d,dst=some d/\d<nt/\t1=t.put d (some v):=by
 cases dst with
 |none=>injection h with h;exact .inl ⟨rfl,h.symm⟩
 |some d=>
  have h': @Bool.rec (fun _=>Option<|Tr AV) none (some<|t.put d<|some v) (Nat.blt d nt)=some t1:=h;rw[tp] at h';by_cases q:d<nt
  ·rw[if_pos q] at h';injection h' with h';exact .inr ⟨d,rfl,q,h'.symm⟩
  ·rw[if_neg q] at h';cases h'
theorem yE{nt:Nat}{dst:Option Tmp}{y:AV}{v:Value}{t1:Tr AV}{a:Act}(ht:TR ρ nt t a.tmps)(fR:nt<=top)(h:dY nt t dst y=some t1)(hv:VR ρ y v):TR ρ nt t1 (a.put dst v).tmps/\(a.put dst v).defers=a.defers:=by
 rcases td h with⟨rfl,rfl⟩|⟨d,rfl,hd,rfl⟩
 ·exact⟨ht,rfl⟩
 ·exact⟨ht.set hd fR hv,rfl⟩
structure At (B:aC) (ρ:ah) (s:AS) (nt:Nat) (t:Tr AV) (w:World) (a:Act):Prop where
 tr:TR ρ nt t a.tmps
 rel:Rel B ρ s.h w
 g:dN ρ
 nt:nt<=top
 bg:aO s
def tZ(P:Program)(B:aC)(ρ:ah)(s s1:AS)(nt:Nat)(t1:Tr AV)(w:World)(a:Act)(m:Machine)(m':Act->World->Machine):Prop:=∃σ a' w',Ext s.nx s1.nx ρ σ/\At B σ s1 nt t1 w' a'/\a'.defers=a.defers/\bh B w w'/\Steps P m (m' a' w')
theorem Gs{ops:Array Oper}{i nt:Nat}{a:Act}{t1:Tr AV}(hc:dm P B Sy)(hl:∀t a,Sx<|Sy t a)(ho:ops[i]? =some o)(aB:At B ρ s nt t w a)(hf:bH s.nx s1.nx ρ)(h:di P Sy nt ops o t s= .ok t1 s1)(b:Frame)(k:List Item)(cs:List Frame)(rest:List Nat):
 tZ P B ρ s s1 nt t1 w a (lone (b.atR a<|.inRegion ops (i::rest)::k) cs w) (fun a' w'=>lone (b.atR a'<|.inRegion ops rest::k) cs w'):=by
 have main:∀(f:(bz P o.op).val Sy t s=(bz P o.op).val Sy t s),Region.wanted o (yielded ops a.tmps)=true->ll (bz P o.op) o.dst Sy nt t s= .ok t1 s1->
  tZ P B ρ s s1 nt t1 w a (lone (b.atR a<|.inRegion ops (i::rest)::k) cs w) (fun a' w'=>lone (b.atR a'<|.inRegion ops rest::k) cs w'):=by
  intro _ hw hk;unfold ll at hk;obtain⟨v,s2,h1,h2⟩:=M.aI hk;obtain⟨h3,rfl⟩:=de h2;obtain⟨hd,hb⟩:=N8 hc hl aB.tr aB.g aB.bg aB.rel hf h1;obtain⟨u,w',⟨σ,e1,e2,e3,e4⟩,st⟩:=Fo ho hw hd hb b k cs rest;obtain⟨q1,q2⟩:=yE (aB.tr.mono e1.le) aB.nt h3 e2;exact⟨σ,a.put o.dst u,w',e1,⟨q1,e3,aB.g.mono e1.le,aB.nt,(Sx.w8 P hl t o.op).bg aB.bg h1⟩,q2,e4,st⟩
 unfold di re at h;cases hg:o.guard with
 |none=>rw[hg] at h;exact main rfl (by unfold Region.wanted;rw[hg]) h
 |some g=>
  rw[hg] at h;have h':lY ops g (bz P o.op) o.dst Sy nt t s= .ok t1 s1:=h;unfold lY at h';obtain⟨hk,h'⟩:=bM h';have hw:=Km (ops:=ops) aB.tr hg hk;cases q:jT ops g t with
  |true=>rw[q] at h' hw;exact main rfl hw h'
  |false=>rw[q] at h' hw;obtain⟨h3,rfl⟩:=de (show lift (dY nt t o.dst iI) s= .ok t1 s1 from h');obtain⟨q1,q2⟩:=yE aB.tr aB.nt h3<|VR.undef ρ;have hs:=stepR_op_skip (P:=P) (b:=b) (a:=a) (k:=k) (cs:=cs) (w:=w) (ops:=ops) (i:=i) (rest:=rest) (by simp[ho];simpa using hw);simp only[ho,Option.bind_some] at hs;exact⟨ρ,a.put o.dst undef,w,Ext.refl _ _ _,⟨q1,aB.rel,aB.g,aB.nt,aB.bg⟩,q2,bh.refl _ _,.one hs⟩
theorem BB{ops:Array Oper}{nt:Nat}(hc:dm P B Sy)(hl:∀t a,Sx<|Sy t a)(b:Frame)(k:List Item)(cs:List Frame):∀(n i:Nat) (l:List Oper) {t t1:Tr AV} {s s1:AS} {ρ:ah} {a:Act} {w:World},l.length=n->ops.toList.drop i=l->
 At B ρ s nt t w a->bH s.nx s1.nx ρ->fj P Sy nt ops l t s= .ok t1 s1->
 tZ P B ρ s s1 nt t1 w a (lone (b.atR a<|.inRegion ops (List.range' i n)::k) cs w) (fun a' w'=>lone (b.atR a' k) cs w')
 |0,i,l,t,t1,s,s1,ρ,a,w,hn,_,aB,_,h=>by have:l=[]:=List.eq_nil_of_length_eq_zero hn;subst this;obtain⟨rfl,rfl⟩:=aM (show M.pure t s= .ok t1 s1 from h);exact⟨ρ,a,w,Ext.refl _ _ _,aB,rfl,bh.refl _ _,.one stepR_region_end⟩
 |n+1,i,l,t,t1,s,s1,ρ,a,w,hn,iC,aB,hf,h=>by
  cases l with
  |nil=>cases hn
  |cons o l=>
   obtain⟨t2,s2,h1,h2⟩:=M.aI (show((di P Sy nt ops o t).bind<|fj P Sy nt ops l) s= .ok t1 s1 from h);have ho:ops[i]? =some o:=by
    have:(ops.toList.drop i)[0]? =some o:=by rw[iC];rfl
    rw[List.getElem?_drop] at this;simpa using this
   have O3:ops.toList.drop (i+1)=l:=by rw[←List.drop_drop,iC];rfl
   have fD:s.nx<=s2.nx:=(Sx.di P hl nt ops o t).le aB.bg h1;have bR:aO s2:=(Sx.di P hl nt ops o t).bg aB.bg h1;have jK:s2.nx<=s1.nx:=(Sx.fj P hl nt ops l t2).le bR h2;obtain⟨σ,a',w',e1,e2,e3,e4,e5⟩:=Gs hc hl ho aB (hf.sub (Nat.le_refl _) jK) h1 b k cs<|List.range' (i+1) n;obtain⟨τ,rY,gz,f1,f2,f3,f4,f5⟩:=BB hc hl b k cs n (i+1) l (by simpa using hn) O3 e2 (hf.next fD e1) h2;exact⟨τ,rY,gz,e1.trans fD jK f1,f2,f3.trans e3,e4.trans f4,by rw[List.range'_succ];exact Steps.trans e5 f5⟩
theorem Le{ops:Array Oper}{nt id:Nat}{t1:Tr AV}{a:Act}(hc:dm P B Sy)(hl:∀t a,Sx<|Sy t a)(aB:At B ρ s nt t w a)(hf:bH s.nx s1.nx ρ)(h:fj P Sy nt ops ops.toList t s= .ok t1 s1)(b:Frame)(k:List Item)(cs:List Frame):
 tZ P B ρ s s1 nt t1 w a (lone (b.atR a<|.code (.region id ops false)::k) cs w) (fun a' w'=>lone (b.atR a' k) cs w'):=by
 obtain⟨σ,a',w',e1,e2,e3,e4,e5⟩:=BB hc hl b k cs ops.size 0 ops.toList (by simp) (by simp) aB hf h;exact⟨σ,a',w',e1,e2,e3,e4,.head stepR_region (by rw[List.range_eq_range'];exact e5)⟩
end
end Go.Rn
namespace Go.Rn
open Go.RowKit
def iH(acc:Array Nat)(o:Oper):Nat:=o.after.foldl (fun s e=>if Region.binds .any e then s|||2 ^ e.on|||acc.getD e.on 0 else s) 0
theorem EJ(acc:Array Nat)(o:Oper)(i:Nat):(iH acc o).testBit i=true↔∃e∈o.after.toList,Region.binds .any e=true/\(e.on=i\/(acc.getD e.on 0).testBit i=true):=by
 unfold iH;rw[←Array.foldl_toList];have:∀(l:List Edge) (s:Nat),(l.foldl (fun s e=>if Region.binds .any e then s|||2 ^ e.on|||acc.getD e.on 0 else s) s).testBit i=true↔
  s.testBit i=true\/∃e∈l,Region.binds .any e=true/\(e.on=i\/(acc.getD e.on 0).testBit i=true):=by
  intro l;induction l with
  |nil=>intro s;simp
  |cons e l ih=>
   intro s;rw[List.foldl_cons,ih];by_cases q:Region.binds .any e=true
   ·rw[if_pos q];simp only[Nat.testBit_or,Bool.or_eq_true,Nat.testBit_two_pow,decide_eq_true_eq,List.mem_cons,exists_eq_or_imp,q,true_and];constructor
    ·rintro ((h|h)|h)
     ·rcases h with h|h
      ·exact .inl h
      ·exact .inr<|.inl<|.inl h
     ·exact .inr<|.inl<|.inr h
     ·exact .inr<|.inr h
    ·rintro (h|(h|h)|h)
     ·exact .inl<|.inl<|.inl h
     ·exact .inl<|.inl<|.inr h
     ·exact .inl<|.inr h
     ·exact .inr h
   ·rw[if_neg q];simp only[List.mem_cons,exists_eq_or_imp,q,false_and,false_or,Bool.false_eq_true]
 have h:=this o.after.toList 0;simpa using h
theorem AQ(l:List Oper):∀(acc:Array Nat),(l.foldl (fun acc o=>acc.push<|iH acc o) acc).size=acc.size+l.length/\
 (∀k,k<acc.size->(l.foldl (fun acc o=>acc.push<|iH acc o) acc).getD k 0=acc.getD k 0):=by
 induction l with
 |nil=>intro acc;exact⟨by simp,fun k _=>rfl⟩
 |cons o l ih=>intro acc;rw[List.foldl_cons];obtain⟨h1,h2⟩:=ih<|acc.push<|iH acc o;refine⟨by rw[h1];simp;omega,fun k hk=>?_⟩;rw[h2 k (by simp;omega)];simp only[Array.getD_eq_getD_getElem?,Array.getElem?_push];rw[if_neg<|by omega]
theorem FV{ops:Array Oper}{j:Nat}{o:Oper}(ho:ops[j]? =some o):
 (Region.before ops).getD j 0=iH ((ops.toList.take j).foldl (fun acc o=>acc.push<|iH acc o) #[]) o/\
 ∀k,k<j->((ops.toList.take j).foldl (fun acc o=>acc.push<|iH acc o) #[]).getD k 0=(Region.before ops).getD k 0:=by
 have hb:Region.before ops=ops.toList.foldl (fun acc o=>acc.push<|iH acc o) #[]:=by unfold Region.before;rw[←Array.foldl_toList];rfl
 have hj:j<ops.toList.length:=by have:=(Array.getElem?_eq_some_iff.1 ho).1;simpa using this
 have gx:ops.toList[j]? =some o:=by simpa using ho
 have N9:ops.toList=ops.toList.take j++o::ops.toList.drop (j+1):=by
  have e:ops.toList.drop j=o::ops.toList.drop (j+1):=by rw[List.drop_eq_getElem_cons hj];congr 1;rw[List.getElem?_eq_getElem hj] at gx;injection gx
  rw[←e,List.take_append_drop]
 obtain⟨s1,_⟩:=AQ (ops.toList.take j) #[];have gb:((ops.toList.take j).foldl (fun acc o=>acc.push<|iH acc o) #[]).size=j:=by rw[s1,List.length_take,Nat.min_eq_left<|by omega];exact Nat.zero_add j
 generalize hA:(ops.toList.take j).foldl (fun acc o=>acc.push<|iH acc o) #[]=A at*;have rZ:Region.before ops=(ops.toList.drop<|j+1).foldl (fun acc o=>acc.push<|iH acc o) (A.push<|iH A o):=by
  rw[hb]
  conv=>lhs;rw[N9]
  rw[List.foldl_append,hA,List.foldl_cons]
 obtain⟨_,q2⟩:=AQ (ops.toList.drop<|j+1)<|A.push<|iH A o;refine⟨?_,fun k hk=>?_⟩
 ·rw[rZ,q2 j (by simp;omega)];rw[Array.getD_eq_getD_getElem?,Array.getElem?_push,if_pos gb.symm];rfl
 ·rw[rZ,q2 k (by simp;omega)];simp only[Array.getD_eq_getD_getElem?,Array.getElem?_push];rw[if_neg<|by omega]
theorem E2(ops:Array Oper):(Region.before ops).size=ops.size:=by
 have hb:Region.before ops=ops.toList.foldl (fun acc o=>acc.push<|iH acc o) #[]:=by unfold Region.before;rw[←Array.foldl_toList];rfl
 rw[hb,(AQ ops.toList #[]).1];simp
theorem JP{ops:Array Oper}(he:yP ops)(D:Nat->Prop)(hD:∀(j:Nat) (o:Oper) (e:Edge),ops[j]? =some o->D j->e∈o.after->Region.binds .any e=true->D e.on):
 ∀(n j i:Nat),j<=n->((Region.before ops).getD j 0).testBit i=true->i<j/\(D j->D i)/\((∀(o:Oper) (e:Edge),ops[j]? =some o->e∈o.after->Region.binds .any e=true->D e.on)->D i):=by
 intro n;induction n with
 |zero=>
  intro j i hj h;have:j=0:=by omega
  subst this;cases ho:ops[0]? with
  |none=>
   have:¬0<(Region.before ops).size:=by rw[E2];intro q;rw[Array.getElem?_eq_getElem q] at ho;cases ho
   rw[Array.getD_eq_getD_getElem?,Array.getElem?_eq_none<|by omega] at h;simp at h
  |some o=>obtain⟨h1,_⟩:=FV ho;rw[h1,EJ] at h;obtain⟨e,hm,sc,_⟩:=h;exact absurd (he 0 o e ho (Array.mem_toList_iff.1 hm) sc)<|Nat.not_lt_zero _
 |succ n ih=>
  intro j i hj h;by_cases q:j<=n
  ·exact ih j i q h
  ·have:j=n+1:=by omega
   subst this;cases ho:ops[n+1]? with
   |none=>
    have:¬n+1<(Region.before ops).size:=by rw[E2];intro q;rw[Array.getElem?_eq_getElem q] at ho;cases ho
    rw[Array.getD_eq_getD_getElem?,Array.getElem?_eq_none<|by omega] at h;simp at h
   |some o=>
    obtain⟨h1,h2⟩:=FV ho;rw[h1,EJ] at h;obtain⟨e,hm,sc,b8⟩:=h;have cO:=Array.mem_toList_iff.1 hm;have aS:=he (n+1) o e ho cO sc;rcases b8 with rfl|b8
    ·exact⟨aS,fun DJ=>hD _ o e ho DJ cO sc,fun fp=>fp o e rfl cO sc⟩
    ·rw[h2 e.on aS] at b8;obtain⟨a,b,_⟩:=ih e.on i (by omega) b8;exact⟨by omega,fun DJ=>b<|hD _ o e ho DJ cO sc,fun fp=>b<|fp o e rfl cO sc⟩
def open_(listed:Array Bool):Nat:=(List.range listed.size).countP fun i=> !listed.getD i true
theorem LD{n i:Nat}{p q:Nat->Bool}(hi:i<n)(hp:p i=true)(hq:q i=false)(bO:∀k,k≠i->q k=p k):(List.range n).countP q<(List.range n).countP p:=by
 induction n with
 |zero=>omega
 |succ n ih=>
  rw[List.range_succ,List.countP_append,List.countP_append];by_cases e:i=n
  ·subst e;have:(List.range i).countP q=(List.range i).countP p:=by
    apply List.countP_congr;intro k hk;have:k≠i:=by have:=List.mem_range.1 hk;omega
    rw[bO k this]
   rw[this];simp[hp,hq]
  ·have:=ih (by omega);have e2:(List.countP q [n])=List.countP p [n]:=by simp[List.countP_cons,bO n<|Ne.symm e]
   rw[e2];omega
theorem Mz{listed:Array Bool}{i:Nat}(hi:listed.getD i true=false):open_ (listed.setIfInBounds i true)<open_ listed:=by
 have aS:i<listed.size:=by
  rcases Nat.lt_or_ge i listed.size with q|q
  ·exact q
  ·rw[Array.getD_eq_getD_getElem?,Array.getElem?_eq_none q] at hi;cases hi
 unfold open_;rw[Array.size_setIfInBounds];refine LD aS (by simp[hi]) ?_ fun k hk=>?_
 ·simp[Array.getD_eq_getD_getElem?,Array.getElem?_setIfInBounds_self_of_lt aS]
 ·simp only[Array.getD_eq_getD_getElem?];rw[Array.getElem?_setIfInBounds_ne<|by omega]
theorem LF{listed:Array Bool}(h:open_ listed=0):∀i,i<listed.size->listed.getD i false=true:=by intro i hi;unfold open_ at h;rw[List.countP_eq_zero] at h;have:=h i<|List.mem_range.2 hi;rw[Array.getD_eq_getD_getElem?,Array.getElem?_eq_getElem hi] at this ⊢;simpa using this
theorem Lf{ops:Array Oper}(he:yP ops){listed:Array Bool}(hs:listed.size=ops.size)(hr:Region.ready .any ops listed=[]):∀n i,i<n->i<ops.size->listed.getD i false=true:=by
 intro n;induction n with
 |zero=>intro i hi;omega
 |succ n ih=>
  intro i hi aS;by_cases q:i<n
  ·exact ih i q aS
  ·have:i=n:=by omega
   subst this;cases h:listed.getD i false with
   |true=>rfl
   |false=>
    exfalso;have ma:i∈Region.ready .any ops listed:=by
     unfold Region.ready;rw[List.mem_filter];refine⟨List.mem_range.2 aS,?_⟩;have h1:listed.getD i true=false:=by rw[Array.getD_eq_getD_getElem?,Array.getElem?_eq_getElem<|by omega] at h ⊢;simpa using h
     rw[h1,Array.getElem?_eq_getElem aS];simp only[Bool.not_false,Bool.true_and,Option.map_some,Option.getD_some];rw[Array.all_eq_true_iff_forall_mem];intro e hm;cases hb:Region.binds .any e with
     |false=>rfl
     |true=>have PT:=he i ops[i] e (Array.getElem?_eq_getElem aS) hm hb;simp only[Bool.not_true,Bool.false_or];exact ih e.on PT (by omega)
    rw[hr] at ma;cases ma
section
variable {P:Program} {ops:Array Oper}
theorem LG(he:yP ops)(b:Frame)(k:List Item)(cs:List Frame)(Inv:Array Bool->Act->World->Prop)(O4:∀(listed:Array Bool) (a:Act) (w:World) (i:Nat) (o:Oper) (rest:List Nat),listed.size=ops.size->Inv listed a w->ops[i]? =some o->listed.getD i true=false->
 (∀e∈o.after,Region.binds .any e=true->listed.getD e.on false=true)->
 ∃a' w',Inv (listed.setIfInBounds i true) a' w'/\Steps P (lone (b.atR a<|.inRegion ops (i::rest)::k) cs w) (lone (b.atR a'<|.inRegion ops rest::k) cs w')):
 ∀(fuel t:Nat) (listed:Array Bool) (a:Act) (w:World),listed.size=ops.size->open_ listed<=fuel->Inv listed a w->∃qL a' w',qL.size=ops.size/\(∀i,i<ops.size->qL.getD i false=true)/\Inv qL a' w'/\Steps P (lone (b.atR a<|.inRegion ops (Region.linearise.go .any ops fuel t listed [])::k) cs w) (lone (b.atR a' k) cs w'):=by
 intro fuel;induction fuel with
 |zero=>
  intro t listed a w hs ho hi;refine⟨listed,a,w,hs,?_,hi,?_⟩
  ·intro i aS;exact LF (by omega) i (by omega)
  ·simp only[Region.linearise.go,List.reverse_nil];exact .one stepR_region_end
 |succ fuel ih=>
  intro t listed a w hs ho hi;simp only[Region.linearise.go];change ∃qL a' w',qL.size=ops.size/\(∀i,i<ops.size->qL.getD i false=true)/\Inv qL a' w'/\
   Steps P (lone (b.atR a<|.inRegion ops (match (Region.ready .any ops listed)[t % (Region.ready .any ops listed).length]? with
    |some i=>Region.linearise.go .any ops fuel (t / (Region.ready .any ops listed).length) (listed.setIfInBounds i true) [i]
    |none=>[].reverse)::k) cs w) (lone (b.atR a' k) cs w')
  cases hq:(Region.ready .any ops listed)[t % (Region.ready .any ops listed).length]? with
  |none=>
   have PU:Region.ready .any ops listed=[]:=by
    cases hr:Region.ready .any ops listed with
    |nil=>rfl
    |cons x xs=>rw[hr] at hq;have aS:t % (x::xs).length<(x::xs).length:=Nat.mod_lt _ (by simp);simp at hq;simp at aS;omega
   refine⟨listed,a,w,hs,fun i aS=>Lf he hs PU (i+1) i (by omega) aS,hi,?_⟩;simp only[List.reverse_nil];exact .one stepR_region_end
  |some i=>
   simp only[];have ma:=List.mem_of_getElem? hq;unfold Region.ready at ma;rw[List.mem_filter,Bool.and_eq_true] at ma;obtain⟨aS,h1,h2⟩:=ma;have wx:=List.mem_range.1 aS;have I2:ops[i]? =some ops[i]:=Array.getElem?_eq_getElem wx;rw[I2] at h2;simp only[Option.map_some,Option.getD_some] at h2;rw[Array.all_eq_true_iff_forall_mem] at h2;have oG:listed.getD i true=false:=by simpa using h1
   rw[linearise_go_acc,List.reverse_singleton,List.singleton_append];obtain⟨a',w',j1,j2⟩:=O4 listed a w i ops[i] (Region.linearise.go .any ops fuel (t / (Region.ready .any ops listed).length) (listed.setIfInBounds i true) []) hs hi I2 oG (fun e hm hb=>by have:=h2 e hm;rw[hb] at this;simpa using this);obtain⟨l',rY,gz,k0,k1,k2,k3⟩:=ih (t / (Region.ready .any ops listed).length) (listed.setIfInBounds i true) a' w' (by simp[hs]) (by have:=Mz oG;omega) j1;exact⟨l',rY,gz,k0,k1,k2,Steps.trans j2 k3⟩
theorem MA(n:Nat):open_ (Array.replicate n false)<=n:=by unfold open_;have:=List.countP_le_length (p:=fun i=> !(Array.replicate n false).getD i true) (l:=List.range (Array.replicate n false).size);simpa using this
end
end Go.Rn
namespace Go.Rn
open Go.RowKit
section
variable {P:Program} {Sy:aD} {t u:Tr AV}
theorem yf{f g:Operand->Option AV}:∀{l:List Operand},(∀y∈l,f y=g y)->eB f l=eB g l
 |[],_=>rfl
 |y::l,h=>by simp only[eB,h y List.mem_cons_self,yf fun z hz=>h z<|List.mem_cons_of_mem _ hz]
theorem AR{f g:Operand->Option AV}:∀{l:List<|Nat×Operand},(∀y∈l,f y.2=g y.2)->mV f l=mV g l
 |[],_=>rfl
 |(i,y)::l,h=>by simp only[mV,h (i,y) List.mem_cons_self,AR fun z hz=>h z<|List.mem_cons_of_mem _ hz]
theorem Bc{f g:Operand->Option AV}{y:Option Operand}(h:∀z,y=some z->f z=g z):opt f y=opt g y:=by
 cases y with
 |none=>rfl
 |some z=>simp only[opt,h z rfl]
theorem LH{op:Op}(h:∀y∈op.operands,ak t y=ak u y):(bz P op).val Sy t=(bz P op).val Sy u:=by
 cases op
 case move y=>show mW y Sy t=mW y Sy u;simp only[mW,h y<|by simp[Op.operands]]
 case assign y=>show mW y Sy t=mW y Sy u;simp only[mW,h y<|by simp[Op.operands]]
 case pick c p q=>show rb c p q Sy t=rb c p q Sy u;simp only[rb,h c (by simp[Op.operands]),h p (by simp[Op.operands]),h q<|by simp[Op.operands]]
 case alloc e=>rfl
 case box e y=>show ru y Sy t=ru y Sy u;simp only[ru,h y<|by simp[Op.operands]]
 case build ty parts=>show qP P ty parts.toList Sy t=qP P ty parts.toList Sy u;simp only[qP,AR (f:=ak t) (g:=ak u) (l:=parts.toList) fun y hy=>h y.2 (by simp only[Op.operands,List.mem_toArray];exact List.mem_map_of_mem hy)]
 case buildSlice ty len parts=>show qg P ty len parts.toList Sy t=qg P ty len parts.toList Sy u;simp only[qg,AR (f:=ak t) (g:=ak u) (l:=parts.toList) fun y hy=>h y.2 (by simp only[Op.operands,List.mem_toArray];exact List.mem_map_of_mem hy)]
 case load ty y=>show lW P ty y Sy t=lW P ty y Sy u;simp only[lW,h y<|by simp[Op.operands]]
 case store ty y z=>show nU P ty y z Sy t=nU P ty y z Sy u;simp only[nU,h y (by simp[Op.operands]),h z<|by simp[Op.operands]]
 case nilCheck y=>show qk y Sy t=qk y Sy u;simp only[qk,h y<|by simp[Op.operands]]
 case binOp op ty y z v=>show fL P op ty y z Sy t=fL P op ty y z Sy u;simp only[fL,h y (by simp[Op.operands]),h z<|by simp[Op.operands]]
 case unOp op ty y=>show rM op y Sy t=rM op y Sy u;simp only[rM,h y<|by simp[Op.operands]]
 case convert src dst y=>show qu P src dst y Sy t=qu P src dst y Sy u;simp only[qu,h y<|by simp[Op.operands]]
 case makeInterface ty y=>show qe P ty y Sy t=qe P ty y Sy u;simp only[qe,h y<|by simp[Op.operands]]
 case makeFunc fn first captured=>show ql fn first.toList captured.toList Sy t=ql fn first.toList captured.toList Sy u;simp only[ql,yf (f:=ak t) (g:=ak u) (l:=first.toList) fun y hy=>h y (by simp only[Op.operands,Array.mem_append];exact .inl<|Array.mem_toList_iff.1 hy),yf (f:=ak t) (g:=ak u) (l:=captured.toList) fun y hy=>h y (by simp only[Op.operands,Array.mem_append];exact .inr<|Array.mem_toList_iff.1 hy)]
 case makeMap ty y=>
  cases y with
  |none=>rfl
  |some y=>show qv P ty (some y) Sy t=qv P ty (some y) Sy u;simp only[qv,h y<|by simp[Op.operands]]
 case makeSlice ty l c=>show nJ P ty l c Sy t=nJ P ty l c Sy u;simp only[nJ,h l (by simp[Op.operands]),h c<|by simp[Op.operands]]
 case slice ty y lo hi mx=>show jX P ty y lo hi mx Sy t=jX P ty y lo hi mx Sy u;simp only[jX,h y (by simp[Op.operands]),Bc (f:=ak t) (g:=ak u) (y:=lo) (fun z hz=>h z<|by simp[Op.operands,hz]),Bc (f:=ak t) (g:=ak u) (y:=hi) (fun z hz=>h z<|by simp[Op.operands,hz]),Bc (f:=ak t) (g:=ak u) (y:=mx) fun z hz=>h z<|by simp[Op.operands,hz]]
 case fieldAddr ty y f=>show qj P ty y f Sy t=qj P ty y f Sy u;simp only[qj,h y<|by simp[Op.operands]]
 case field ty y f=>show qQ P ty y f Sy t=qQ P ty y f Sy u;simp only[qQ,h y<|by simp[Op.operands]]
 case indexAddr ty y z=>show jO P ty y z Sy t=jO P ty y z Sy u;simp only[jO,h y (by simp[Op.operands]),h z<|by simp[Op.operands]]
 case index ty y z=>show qR P ty y z Sy t=qR P ty y z Sy u;simp only[qR,h y (by simp[Op.operands]),h z<|by simp[Op.operands]]
 case lookup ty y z ok=>show jS P ty y z ok Sy t=jS P ty y z ok Sy u;simp only[jS,h y (by simp[Op.operands]),h z<|by simp[Op.operands]]
 case mapUpdate ty m k y=>show gP P ty m k y Sy t=gP P ty m k y Sy u;simp only[gP,h m (by simp[Op.operands]),h k (by simp[Op.operands]),h y<|by simp[Op.operands]]
 case insert ty m k y=>show gP P ty m k y Sy t=gP P ty m k y Sy u;simp only[gP,h m (by simp[Op.operands]),h k (by simp[Op.operands]),h y<|by simp[Op.operands]]
 case typeAssert y xt asserted ok=>show qG P asserted ok y Sy t=qG P asserted ok y Sy u;simp only[qG,h y<|by simp[Op.operands]]
 case range ty y=>show qS P ty y Sy t=qS P ty y Sy u;simp only[qS,h y<|by simp[Op.operands]]
 case entry y=>show qT y Sy t=qT y Sy u;simp only[qT,h y<|by simp[Op.operands]]
 case next y DI=>
  cases DI with
  |true=>show qw y Sy t=qw y Sy u;simp only[qw,h y<|by simp[Op.operands]]
  |false=>rfl
 case extract y i=>show qx y i Sy t=qx y i Sy u;simp only[qx,h y<|by simp[Op.operands]]
 case call c=>
  obtain⟨callee,args,ts⟩:=c;have ha:∀(cl:Callee),(∀y∈(Op.call ⟨cl,args,ts⟩).operands,ak t y=ak u y)->eB (ak t) args.toList=eB (ak u) args.toList:=fun cl hh=>yf fun y hy=>hh y (by simp only[Op.operands,Call.operands,Array.mem_append];exact .inr<|Array.mem_toList_iff.1 hy);cases callee with
  |builtin b=>show iG P b ts args.toList Sy t=iG P b ts args.toList Sy u;simp only[iG,ha _ h]
  |value f=>show lX f args.toList Sy t=lX f args.toList Sy u;simp only[lX,ha _ h,h f<|by simp[Op.operands,Call.operands]]
  |invoke r name=>show qJ P r name args.toList Sy t=qJ P r name args.toList Sy u;simp only[qJ,ha _ h,h r<|by simp[Op.operands,Call.operands]]
 all_goals rfl
theorem MB{y:Operand}(h:∀d,y= .tmp d->t.get d=u.get d):ak t y=ak u y:=by
 cases y with
 |tmp d=>show t.get d=u.get d;rw[h d rfl]
 |_=>rfl
theorem Fp{nt:Nat}{ops:Array Oper}{o:Oper}(h:∀d∈o.looksAt ops,t.get d=u.get d){s s1:AS}{t1:Tr AV}(hr:di P Sy nt ops o t s= .ok t1 s1):
 ∃v,dY nt t o.dst v=some t1/\∀u1,dY nt u o.dst v=some u1->di P Sy nt ops o u s= .ok u1 s1:=by
 have cz:(bz P o.op).val Sy t=(bz P o.op).val Sy u:=LH fun y hy=>MB fun d hd=>h d (by unfold Oper.looksAt;refine List.mem_append_left _<|List.mem_filterMap.2 ⟨y,Array.mem_toList_iff.2 hy,by rw[hd]⟩);have main:ll (bz P o.op) o.dst Sy nt t s= .ok t1 s1->∃v,dY nt t o.dst v=some t1/\∀u1,dY nt u o.dst v=some u1->ll (bz P o.op) o.dst Sy nt u s= .ok u1 s1:=by intro hk;unfold ll at hk;obtain⟨v,s2,h1,h2⟩:=M.aI hk;obtain⟨h3,rfl⟩:=de h2;refine⟨v,h3,fun u1 hu=>?_⟩;unfold ll;rw[←cz,M.bo h1];unfold lift;rw[hu]
 unfold di re at hr ⊢;cases hg:o.guard with
 |none=>rw[hg] at hr;exact main hr
 |some g=>
  rw[hg] at hr;have se:lY ops g (bz P o.op) o.dst Sy nt t s= .ok t1 s1:=hr;have hw:jT ops g t=jT ops g u:=by
   unfold jT vt;cases e1:ops[g.1]? with
   |none=>rfl
   |some q=>
    simp only;cases e2:q.dst with
    |none=>rfl
    |some d=>simp only;rw[h d (by unfold Oper.looksAt;refine List.mem_append_right _ ?_;rw[hg];simp[e1,e2])]
  have nz:lP ops t g.1=lP ops u g.1:=by
   unfold lP;cases e1:ops[g.1]? with
   |none=>rfl
   |some q=>
    simp only;cases e2:q.dst with
    |none=>rfl
    |some d=>simp only;rw[h d (by unfold Oper.looksAt;refine List.mem_append_right _ ?_;rw[hg];simp[e1,e2])]
  show ∃v,dY nt t o.dst v=some t1/\∀u1,dY nt u o.dst v=some u1->lY ops g (bz P o.op) o.dst Sy nt u s= .ok u1 s1;unfold lY at se ⊢;obtain⟨hk,se⟩:=bM se;rw[←hw, ←nz,hk,bC];cases q:jT ops g t with
  |true=>rw[q] at se;exact main se
  |false=>rw[q] at se;obtain⟨h3,rfl⟩:=de (show lift (dY nt t o.dst iI) s= .ok t1 s1 from se);refine⟨iI,h3,fun u1 hu=>?_⟩;show lift (dY nt u o.dst iI) s1= .ok u1 s1;unfold lift;rw[hu]
end
end Go.Rn
namespace Go.Rn
open Go.RowKit
theorem Rel.congr{B:aC}{ρ:ah}{h h':Tr U}{w:World}(r:Rel B ρ h w)(e:∀m,m<top->h'.get m=h.get m):Rel B ρ h' w:=by
 refine⟨fun n o hn hg=>r.is n o hn (by rw[←e n hn];exact hg),fun n m o p b N M hn hm h1 h2 b8=>r.one n m o p b N M hn hm (by rw[←e n hn];exact h1) (by rw[←e m hm];exact h2) b8,fun n m es ex left cur hn h1=>?_,r.size,
  fun i j m es ex left cur dD eW eJ eL hi hj h1 h2=>r.lone i j m es ex left cur dD eW eJ eL hi hj (by rw[←e i hi];exact h1) (by rw[←e j hj];exact h2),
  r.fz.of (ah.le_refl _) (fun _ _ _=>rfl) (fun b1 _ hn=>hn.sub fun m q hm hq da=>⟨q,by rw[←e m hm];exact hq,da⟩),
  r.tk.of (ah.le_refl _) (fun n q hn hq _=>by rw[←e n hn];exact hq) (Nat.le_refl _) (fun _ _ _=>rfl) (fun b1 _ hn=>hn.sub fun m q hm hq da=>⟨q,by rw[←e m hm];exact hq,da⟩) (fun _ _ _ _ _ e=>e)⟩
 obtain⟨a,b,c⟩:=r.iter n m es ex left cur hn (by rw[←e n hn];exact h1);exact⟨a,by rw[e m a];exact b,c⟩
theorem Et{b:Array Nat}{x:bI}:∀{all:List bI},lF b x all=true->∀y∈all,x.i=y.i\/lR x y=true\/loose b x.i y.i=false
 |[],_,y,hy=>by cases hy
 |z::l,h,y,hy=>by
  simp only[lF] at h;cases q:(Nat.beq x.i z.i||(lR x z|| !loose b x.i z.i)) with
  |false=>rw[q] at h;cases h
  |true=>
   rw[q] at h;rcases List.mem_cons.1 hy with rfl|hy
   ·simp only[Bool.or_eq_true,Bool.not_eq_true'] at q;rcases q with q|q|q
    ·exact .inl<|cj.1 q
    ·exact .inr<|.inl q
    ·exact .inr<|.inr q
   ·exact Et h y hy
theorem FW{b:Array Nat}{all:List bI}:∀{l:List bI},j0 b all l=true->∀x∈l,lS x=true\/lF b x all=true
 |[],_,x,hx=>by cases hx
 |z::l,h,x,hx=>by
  simp only[j0] at h;cases q:(lS z||lF b z all) with
  |false=>rw[q] at h;cases h
  |true=>
   rw[q] at h;rcases List.mem_cons.1 hx with rfl|hx
   ·exact Bool.or_eq_true_iff.1 q
   ·exact FW h x hx
theorem E3{m:List Nat}:∀{l:List Nat},meets l m=false->∀x∈l,x ∉ m
 |[],_,x,hx=>by cases hx
 |z::l,h,x,hx=>by
  simp only[meets] at h;cases q:nb z m with
  |true=>rw[q] at h;cases h
  |false=>
   rw[q] at h;rcases List.mem_cons.1 hx with rfl|hx
   ·intro e;rw[tb.2 e] at q;cases q
   ·exact E3 h x hx
theorem E4{lo hi:Nat}:∀{l:List Nat},pv lo hi l=false->∀x∈l,¬(lo<=x/\x<hi)
 |[],_,x,hx=>by cases hx
 |z::l,h,x,hx=>by
  simp only[pv] at h;cases q:(Nat.ble lo z&&Nat.blt z hi) with
  |true=>rw[q] at h;cases h
  |false=>
   rw[q] at h;rcases List.mem_cons.1 hx with rfl|hx
   ·rintro ⟨h1,h2⟩;rw[show Nat.ble lo x=true from aL.2 h1,show Nat.blt x hi=true from(blt_eq _ _).mpr h2] at q;cases q
   ·exact E4 h x hx
section
variable {P:Program} {Sy:aD} {ops:Array Oper} {nt:Nat}
structure C5 (P:Program) (Sy:aD) (ops:Array Oper) (nt:Nat) (H:Nat->Tr U) (N:Nat->Nat) (T:Nat->Tr AV) (k:Nat) (o:Oper) (x:bI) (s1:AS):Prop where
 lo:x.lo=N k
 hi:x.hi=N (k+1)
 run:di P Sy nt ops o (T k) ⟨H k,N k,N k,[],[]⟩= .ok (T<|k+1) s1
 h:s1.h=H (k+1)
 nx:s1.nx=N (k+1)
 rd:x.rd=below (N k) s1.rd
 wr:x.wr=below (N k) s1.wr
theorem FX(hl:∀t a,Sx<|Sy t a):∀(l:List Oper) (i:Nat) {t t':Tr AV} {s s':AS} {ms:List bI},aO s->gT P Sy nt ops l i t s= .ok (t',ms) s'->
 aO s'/\∃(H:Nat->Tr U) (N:Nat->Nat) (T:Nat->Tr AV),H 0=s.h/\N 0=s.nx/\T 0=t/\H l.length=s'.h/\N l.length=s'.nx/\T l.length=t'/\(∀k,k<=l.length->N k<=top)/\∀k o,l[k]? =some o->∃x s1,ms[k]? =some x/\x.i=i+k/\C5 P Sy ops nt H N T k o x s1
 |[],i,t,t',s,s',ms,fi,h=>by obtain⟨e,rfl⟩:=aM (show M.pure (t,[]) s= .ok (t',ms) s' from h);cases e;exact⟨fi,fun _=>s'.h,fun _=>s'.nx,fun _=>t,rfl,rfl,rfl,rfl,rfl,rfl,fun _ _=>fi.nx,fun k o h=>by simp at h⟩
 |o::l,i,t,t',s,s',ms,fi,h=>by
  obtain⟨x,s2,h1,h2⟩:=M.aI (show((alone i<|di P Sy nt ops o t).bind fun x=>(gT P Sy nt ops l (i+1) x.1).bind fun y=>M.pure (y.1,x.2::y.2)) s= .ok (t',ms) s' from h);obtain⟨y,s3,h3,h4⟩:=M.aI h2;obtain⟨e,rfl⟩:=aM h4;cases e;obtain⟨a,s1,g1,rfl,rfl⟩:=FI h1;have DK:aO s1:=(Sx.di P hl nt ops o t).bg (s:=⟨s.h,s.nx,s.nx,[],[]⟩) ⟨Nat.le_refl _,fi.nx⟩ g1;have QX:s.nx<=s1.nx:=(Sx.di P hl nt ops o t).le (s:=⟨s.h,s.nx,s.nx,[],[]⟩) ⟨Nat.le_refl _,fi.nx⟩ g1;have bR:aO ⟨s1.h,s1.nx,s.mark,below s.mark s1.rd++s.rd,below s.mark s1.wr++s.wr⟩:=⟨Nat.le_trans fi.mark QX,DK.nx⟩;obtain⟨f3,H,N,T,a1,a2,a3,a4,a5,a6,a7,a8⟩:=FX hl l (i+1) (t':=y.1) (ms:=y.2) bR h3;refine⟨f3,fun k=>match k with|0=>s.h|k+1=>H k,fun k=>match k with|0=>s.nx|k+1=>N k,fun k=>match k with|0=>t|k+1=>T k,rfl,rfl,rfl,a4,a5,a6,?_,?_⟩
  ·intro k hk;cases k with
   |zero=>exact fi.nx
   |succ k=>exact a7 k (by simpa using hk)
  ·intro k o2 hk;cases k with
   |zero=>simp only[List.getElem?_cons_zero,Option.some.injEq] at hk;subst hk;refine⟨_,s1,rfl,rfl,⟨rfl,a2.symm,?_,a1.symm,a2.symm,rfl,rfl⟩⟩;show di P Sy nt ops o t ⟨s.h,s.nx,s.nx,[],[]⟩= .ok (T 0) s1;rw[a3];exact g1
   |succ k=>simp only[List.getElem?_cons_succ] at hk;obtain⟨x,s4,b1,b2,b3⟩:=a8 k o2 hk;exact⟨x,s4,by simpa using b1,by rw[b2];omega,⟨b3.lo,b3.hi,b3.run,b3.h,b3.nx,b3.rd,b3.wr⟩⟩
structure Text (P:Program) (Sy:aD) (ops:Array Oper) (nt:Nat) (H:Nat->Tr U) (N:Nat->Nat) (T:Nat->Tr AV) (Rd Wr:Nat->Nat->Prop):Prop where
 top:∀k,k<=ops.size->N k<=Rn.top
 up:∀k,k<ops.size->N k<=N (k+1)
 l9:∀k m,k<ops.size->¬Wr k m->m<Rn.top->(H<|k+1).get m=(H k).get m
 made:∀k m,k<ops.size->N k<=m->m<N (k+1)->Wr k m
 wrote:∀k m,k<ops.size->Wr k m->m<N (k+1)/\(m<N k->Rd k m)
 slot:∀k o d,ops[k]? =some o->o.dst≠some d->(T<|k+1).get d=(T k).get d
 apart:∀i j m,i<ops.size->j<ops.size->i≠j->loose (Region.before ops) i j=true->Wr i m->¬Rd j m
 again:∀j o,ops[j]? =some o->∀(h:Tr U),(∀m,m<Rn.top->Rd j m->h.get m=(H j).get m)->∃t1,di P Sy nt ops o (T j) ⟨h,N j,N j,[],[]⟩= .ok (T<|j+1) t1/\t1.nx=N (j+1)/\
  (∀m,Wr j m->t1.h.get m=(H<|j+1).get m)/\(∀m,¬Wr j m->m<Rn.top->t1.h.get m=h.get m)
theorem Nl(hl:∀t a,Sx<|Sy t a)(fR:nt<=top){t t':Tr AV}{s s':AS}{ms:List bI}(fi:aO s)(h:gT P Sy nt ops ops.toList 0 t s= .ok (t',ms) s')(hm:j0 (Region.before ops) ms ms=true):
 aO s'/\∃(H:Nat->Tr U) (N:Nat->Nat) (T:Nat->Tr AV) (Rd Wr:Nat->Nat->Prop),H 0=s.h/\N 0=s.nx/\T 0=t/\H ops.size=s'.h/\N ops.size=s'.nx/\T ops.size=t'/\Text P Sy ops nt H N T Rd Wr:=by
 obtain⟨f',H,N,T,a1,a2,a3,a4,a5,a6,a7,a8⟩:=FX hl ops.toList 0 fi h;have hlen:ops.toList.length=ops.size:=by simp
 rw[hlen] at a4 a5 a6 a7;refine⟨f',H,N,T,fun k m=>∃x,ms[k]? =some x/\m∈x.rd,fun k m=>∃x,ms[k]? =some x/\(m∈x.wr\/(N k<=m/\m<N (k+1))),a1,a2,a3,a4,a5,a6,?_⟩;have I:∀k,k<ops.size->∃o x s1,ops[k]? =some o/\ms[k]? =some x/\x.i=k/\C5 P Sy ops nt H N T k o x s1:=by
  intro k hk;have ho:ops.toList[k]? =some ops[k]:=by simp[hk]
  obtain⟨x,s1,b1,b2,b3⟩:=a8 k _ ho;exact⟨ops[k],x,s1,Array.getElem?_eq_getElem hk,b1,by omega,b3⟩
 have uB:∀k,k<ops.size->∀o x s1,C5 P Sy ops nt H N T k o x s1->∃dr dw,gw ⟨H k,N k,N k,[],[]⟩ s1 dr dw/\
  (∀A m0 t,vS A m0 ⟨H k,N k,N k,[],[]⟩ t->(∀q∈dr,q<m0->A q)->∃t1,di P Sy nt ops o (T k) t= .ok (T<|k+1) t1/\l6 A m0 s1 t t1 dr dw)/\(∀m,m∈x.rd↔m∈dr/\m<N k)/\(∀m,m∈x.wr↔m∈dw/\m<N k):=by
  intro k hk o x s1 hd;obtain⟨dr,dw,d1,d2⟩:=Sx.di P hl nt ops o (T k) _ _ _ ⟨Nat.le_refl _,a7 k<|by omega⟩ hd.run;refine⟨dr,dw,d1,d2,fun m=>?_,fun m=>?_⟩
  ·rw[hd.rd,kB,d1.rd];simp
  ·rw[hd.wr,kB,d1.wr];simp
 refine⟨a7,?_,?_,?_,?_,?_,?_,?_⟩
 ·intro k hk;obtain⟨o,x,s1,_,_,_,hd⟩:=I k hk;obtain⟨dr,dw,d1,_⟩:=uB k hk o x s1 hd;have:=d1.nx;rw[hd.nx] at this;exact this
 ·intro k m hk hw eZ;obtain⟨o,x,s1,_,hx,_,hd⟩:=I k hk;obtain⟨dr,dw,d1,_,_,d4⟩:=uB k hk o x s1 hd;rw[←hd.h];by_cases q:m<N k
  ·refine d1.same m q fun e=>hw ⟨_,hx,.inl<|(d4 m).2 ⟨e,q⟩⟩
  ·refine d1.dk m ?_ eZ;rw[hd.nx];rcases Nat.lt_or_ge m (N<|k+1) with q2|q2
   ·exact absurd ⟨_,hx,.inr ⟨by omega,q2⟩⟩ hw
   ·exact q2
 ·intro k m hk h1 h2;obtain⟨o,x,s1,_,hx,_,hd⟩:=I k hk;exact⟨x,hx,.inr ⟨h1,h2⟩⟩
 ·rintro k m hk ⟨x',pU,hw⟩;obtain⟨o,x,s1,_,hx,_,hd⟩:=I k hk;rw[hx] at pU;cases pU;obtain⟨dr,dw,d1,_,d3,d4⟩:=uB k hk o _ s1 hd;have xn:=d1.nx;rw[hd.nx] at xn;have PV:N k<=N (k+1):=xn;rcases hw with hw|⟨h1,h2⟩
  ·obtain⟨e1,e2⟩:=(d4 m).1 hw;exact⟨by omega,fun _=>⟨_,hx,(d3 m).2 ⟨d1.sub m e1,e2⟩⟩⟩
  ·exact⟨h2,fun q=>by omega⟩
 ·intro k o d ho bO;have hk:k<ops.size:=(Array.getElem?_eq_some_iff.1 ho).1;obtain⟨o',x,s1,gx,hx,_,hd⟩:=I k hk;rw[ho] at gx;cases gx;obtain⟨v,hv,_⟩:=Fp (u:=T k) (fun _ _=>rfl) hd.run;rcases td hv with⟨_,e⟩|⟨d',e1,e2,e3⟩
  ·rw[e]
  ·rw[e3,Tr.mK _ _ _ _<|Nat.lt_of_lt_of_le e2 fR,if_neg (by intro e;subst e;exact bO e1)]
 ·rintro i j m hi hj bO Oa ⟨x',pU,hw⟩ ⟨y',ln,hr⟩;obtain⟨_,x,s1,_,hx,xi,hd⟩:=I i hi;obtain⟨_,y,s2,_,hy,yi,he⟩:=I j hj;rw[hx] at pU;cases pU;rw[hy] at ln;cases ln;rcases FW hm _ (List.mem_of_getElem? hx) with q|q
  ·unfold lS at q;split at q
   ·rename_i DL;rcases hw with hw|⟨h1,h2⟩
    ·rw[DL] at hw;cases hw
    ·have:=aL.1 q;rw[hd.lo,hd.hi] at this;omega
   ·cases q
  ·rcases Et q _ (List.mem_of_getElem? hy) with e|e|e
   ·rw[xi,yi] at e;exact bO e
   ·unfold lR at e;simp only[Bool.and_eq_true,Bool.not_eq_true'] at e;rcases hw with hw|⟨h1,h2⟩
    ·exact E3 e.1 m hw hr
    ·exact E4 e.2 m hr ⟨by rw[hd.lo];exact h1,by rw[hd.hi];exact h2⟩
   ·rw[xi,yi,Oa] at e;cases e
 ·intro j o ho h' QY;have hj:j<ops.size:=(Array.getElem?_eq_some_iff.1 ho).1;obtain⟨o',x,s1,gx,hx,_,hd⟩:=I j hj;rw[ho] at gx;cases gx;obtain⟨dr,dw,d1,d2,d3,d4⟩:=uB j hj o x s1 hd;obtain⟨t1,c1,c2⟩:=d2 (fun m=>∃x,ms[j]? =some x/\m∈x.rd) (N j) ⟨h',N j,N j,[],[]⟩
   ⟨rfl,rfl,Nat.le_refl _,fun k hk b8=>by
    rcases b8 with b8|b8
    ·exact(QY k (Nat.lt_of_lt_of_le hk<|a7 j<|by omega) b8).symm
    ·exact absurd hk<|Nat.not_lt.2 b8⟩ (fun q hq aS=>⟨x,hx,(d3 q).2 ⟨hq,aS⟩⟩)
  have bj:t1.nx=N (j+1):=by rw[←c2.jr.nx,hd.nx]
  refine⟨t1,c1,bj,?_,?_⟩
  ·rintro m ⟨x',pU,hw⟩;rw[hx] at pU;cases pU;rw[←hd.h];have xn:=d1.nx;rw[hd.nx] at xn;have PV:N j<=N (j+1):=xn;symm;rcases hw with hw|⟨h1,h2⟩
   ·obtain⟨e1,e2⟩:=(d4 m).1 hw;exact c2.jr.is m (by rw[hd.nx];omega)<|.inl ⟨x,hx,(d3 m).2 ⟨d1.sub m e1,e2⟩⟩
   ·exact c2.jr.is m (by rw[hd.nx];exact h2)<|.inr h1
  ·intro m hw eZ;by_cases q:m<N j
   ·exact c2.same m q fun e=>hw ⟨_,hx,.inl<|(d4 m).2 ⟨e,q⟩⟩
   ·refine c2.dk m ?_ eZ;rw[hd.nx];rcases Nat.lt_or_ge m (N<|j+1) with q2|q2
    ·exact absurd ⟨_,hx,.inr ⟨by omega,q2⟩⟩ hw
    ·exact q2
end
end Go.Rn
namespace Go.Rn
open Go.RowKit
section
variable {P:Program} {B:aC} {Sy:aD} {ops:Array Oper} {nt:Nat} {H:Nat->Tr U} {N:Nat->Nat} {T:Nat->Tr AV} {Rd Wr:Nat->Nat->Prop}
def gp(listed:Array Bool)(i:Nat):Prop:=listed.getD i false=true
def Cut(n:Nat)(W:Nat->Prop)(D:Nat->Prop)(c:Nat):Prop:=c<=n/\∀i,i<n->W i->(D i↔i<c)
theorem Fq{α:Type}{f:Nat->α}{n:Nat}{W:Nat->Prop}(hk:∀k,k<n->¬W k->f (k+1)=f k):∀(m c:Nat),c+m<=n->(∀i,c<=i->i<c+m->¬W i)->f (c+m)=f c
 |0,_,_,_=>rfl
 |m+1,c,hn,hw=>by have h1:=hk (c+m) (by omega) (hw (c+m) (by omega)<|by omega);rw[show c+(m+1)=c+m+1 from rfl,h1];exact Fq hk m c (by omega) fun i h1 h2=>hw i h1 (by omega)
theorem yF{α:Type}{f:Nat->α}{n:Nat}{W D:Nat->Prop}(hk:∀k,k<n->¬W k->f (k+1)=f k){c c':Nat}(h:Cut n W D c)(h':Cut n W D c'):f c=f c':=by
 have key:∀{a b:Nat},Cut n W D a->Cut n W D b->a<=b->f b=f a:=by intro a b ha hb mm;obtain⟨m,rfl⟩:∃m,b=a+m:=⟨b - a,by omega⟩;refine Fq hk m a hb.1 fun i h1 h2 hw=>?_;have eM:i<n:=Nat.lt_of_lt_of_le h2 hb.1;have:=(ha.2 i eM hw).1<|(hb.2 i eM hw).2 h2;omega
 rcases Nat.le_total c c' with q|q
 ·exact(key h h' q).symm
 ·exact key h' h q
theorem pk(x:Text P Sy ops nt H N T Rd Wr):∀{i j:Nat},i<=j->j<=ops.size->N i<=N j:=by
 intro i j dq hj;obtain⟨m,rfl⟩:∃m,j=i+m:=⟨j - i,by omega⟩;clear dq;induction m with
 |zero=>exact Nat.le_refl _
 |succ m ih=>exact Nat.le_trans (ih<|by omega) (x.up (i+m)<|by omega)
structure Inv (B:aC) (ops:Array Oper) (nt:Nat) (H:Nat->Tr U) (N:Nat->Nat) (T:Nat->Tr AV) (Wr:Nat->Nat->Prop) (mX:ah) (zF:World) (zG:Act) (listed:Array Bool) (a:Act) (w:World) (h:Tr U) (t:Tr AV) (ρ:ah):Prop where
 rel:Rel B ρ h w
 tr:TR ρ nt t a.tmps
 le:mX.le ρ
 new:∀m,m<top->ρ m≠mX m->∃i,i<ops.size/\gp listed i/\N i<=m/\m<N (i+1)
 heap:∀m,m<top->∃c,Cut ops.size (fun i=>Wr i m) (gp listed) c/\h.get m=(H c).get m
 tK:∀d,∃c,Cut ops.size (fun i=>∃o,ops[i]? =some o/\o.dst=some d) (gp listed) c/\t.get d=(T c).get d
 below:bh B zF w
 defers:a.defers=zG.defers
 closed:∀(j:Nat) (o:Oper) (e:Edge),ops[j]? =some o->gp listed j->e∈o.after->Region.binds .any e=true->gp listed e.on
theorem vy{listed:Array Bool}{j:Nat}(hj:j<listed.size)(i:Nat):gp (listed.setIfInBounds j true) i↔i=j\/gp listed i:=by
 unfold gp;simp only[Array.getD_eq_getD_getElem?];by_cases e:i=j
 ·subst e;rw[Array.getElem?_setIfInBounds_self_of_lt hj];simp
 ·rw[Array.getElem?_setIfInBounds_ne<|Ne.symm e];simp[e]
theorem MC(pV:zk ops)(x:Text P Sy ops nt H N T Rd Wr)(hc:dm P B Sy)(hl:∀t a,Sx<|Sy t a)(fR:nt<=top){mX:ah}(hg:dN mX)(gV:bH (N 0) (N ops.size) mX){zF:World}{zG:Act}{listed:Array Bool}{a:Act}{w:World}{j:Nat}{o:Oper}(hs:listed.size=ops.size){h:Tr U}{t:Tr AV}{ρ:ah}(inv:Inv B ops nt H N T Wr mX zF zG listed a w h t ρ)(ho:ops[j]? =some o)(hj:listed.getD j true=false)(HE:∀e∈o.after,Region.binds .any e=true->listed.getD e.on false=true)(b:Frame)(k:List Item)(cs:List Frame)(rest:List Nat):
 ∃a' w' h' t' sg,Inv B ops nt H N T Wr mX zF zG (listed.setIfInBounds j true) a' w' h' t' sg/\Steps P (lone (b.atR a<|.inRegion ops (j::rest)::k) cs w) (lone (b.atR a'<|.inRegion ops rest::k) cs w'):=by
 have pW:j<ops.size:=(Array.getElem?_eq_some_iff.1 ho).1;have oN:¬gp listed j:=by unfold gp;rw[Array.getD_eq_getD_getElem?,Array.getElem?_eq_getElem<|by omega] at hj ⊢;simp at hj ⊢;exact hj
 have Iz:=JP pV.HT (gp listed) inv.closed;have ordered:∀i,i≠j->loose (Region.before ops) i j=false->(gp listed i↔i<j):=by
  intro i dq cr;unfold loose at cr;simp only[Bool.not_eq_false',Bool.or_eq_true] at cr;rcases cr with q|q
  ·obtain⟨h1,h2,_⟩:=Iz i i j (Nat.le_refl _) q;exact⟨fun hd=>absurd (h2 hd) oN,fun e=>by omega⟩
  ·obtain⟨h1,_,h3⟩:=Iz j j i (Nat.le_refl _) q;exact⟨fun _=>h1,fun _=>h3 fun o' e gx hm hb=>by rw[ho] at gx;cases gx;exact HE e hm hb⟩
 have Ob:∀i,loose (Region.before ops) i j=loose (Region.before ops) j i:=by intro i;unfold loose;rw[Bool.or_comm]
 have cutAt:∀(W:Nat->Prop),(∀i,i<ops.size->W i->i≠j->loose (Region.before ops) i j=false)->Cut ops.size W (gp listed) j:=by
  intro W hW;refine⟨Nat.le_of_lt pW,fun i hi hw=>?_⟩;by_cases e:i=j
  ·subst e;exact⟨fun hd=>absurd hd oN,fun q=>absurd q<|Nat.lt_irrefl _⟩
  ·exact ordered i e<|hW i hi hw e
 have G6:∀(W:Nat->Prop),(∀i,i<ops.size->W i->i≠j->loose (Region.before ops) i j=false)->Cut ops.size W (gp<|listed.setIfInBounds j true) (j+1):=by
  intro W hW;refine⟨pW,fun i hi hw=>?_⟩;rw[vy<|by omega];by_cases e:i=j
  ·subst e;exact⟨fun _=>Nat.lt_succ_self _,fun _=>.inl rfl⟩
  ·have:=ordered i e<|hW i hi hw e;constructor
   ·rintro (q|q)
    ·exact absurd q e
    ·have:=this.1 q;omega
   ·intro q;exact .inr (this.2<|by omega)
 have G7:∀(W:Nat->Prop) (c:Nat),¬W j->Cut ops.size W (gp listed) c->Cut ops.size W (gp<|listed.setIfInBounds j true) c:=by
  intro W c hW IA;refine⟨IA.1,fun i hi hw=>?_⟩;rw[vy<|by omega];have dq:i≠j:=by intro e;subst e;exact hW hw
  rw[←IA.2 i hi hw];exact⟨fun q=>q.resolve_left dq,.inr⟩
 have G8:∀i m,i<ops.size->i≠j->Wr i m->Rd j m->loose (Region.before ops) i j=false:=by
  intro i m hi dq hw hr;cases q:loose (Region.before ops) i j with
  |false=>rfl
  |true=>exact absurd hr<|x.apart i j m hi pW dq q hw
 have SI:∀m,m<N j->m<top:=fun m hm=>Nat.lt_of_lt_of_le hm (x.top j<|by omega);have O5:∀m,m<top->Rd j m->h.get m=(H j).get m:=by intro m hm hr;obtain⟨c,oH,jb⟩:=inv.heap m hm;rw[jb];exact yF (f:=fun c=>(H c).get m) (fun k hk hw=>x.l9 k m hk hw hm) oH<|cutAt _ fun i hi hw dq=>G8 i m hi dq hw hr
 have O6:∀d∈o.looksAt ops,(T j).get d=t.get d:=by
  intro d hd;obtain⟨c,oH,jb⟩:=inv.tK d;rw[jb];refine yF (f:=fun c=>(T c).get d) (fun k hk hw=>?_) (cutAt _ ?_) oH
  ·have cC:ops[k]? =some ops[k]:=Array.getElem?_eq_getElem hk;exact x.slot k _ d cC fun e=>hw ⟨_,cC,e⟩
  ·rintro i hi ⟨y,hy,xo⟩ dq;exact pV.tK i j y o d dq hy ho xo<|.inl hd
 obtain⟨t1,c1,c2,c3,c4⟩:=x.again j o ho h O5;obtain⟨v,v1,v2⟩:=Fp O6 c1;obtain⟨u1,DM⟩:∃u1,dY nt t o.dst v=some u1:=by
  rcases td v1 with⟨e,_⟩|⟨d,e,hd,_⟩
  ·rw[e];exact⟨t,rfl⟩
  ·rw[e];refine⟨t.put d<|some v,?_⟩;show @Bool.rec (fun _=>Option<|Tr AV) none (some<|t.put d<|some v) (Nat.blt d nt)=_;rw[tp,if_pos hd]
 have oj:=v2 u1 DM;have SX:N j<=N (j+1):=x.up j pW;have aW:bH (N j) (N<|j+1) ρ:=by
  intro m h1 h2 eZ;have e0:mX m=none:=gV m (Nat.le_trans (pk x (Nat.zero_le j)<|by omega) h1) (Nat.lt_of_lt_of_le h2<|pk x pW<|Nat.le_refl _) eZ;by_cases e:ρ m=mX m
  ·rw[e];exact e0
  ·exfalso;obtain⟨i,hi,DN,p1,p2⟩:=inv.new m eZ e;have dq:i≠j:=by intro q;subst q;exact oN DN
   rcases Nat.lt_or_ge i j with q|q
   ·have:=pk x (show i+1<=j from q) (by omega);omega
   ·have:=pk x (show j+1<=i from by omega) (by omega);omega
 have aB:At B ρ ⟨h,N j,N j,[],[]⟩ nt t w a:=⟨inv.tr,inv.rel,hg.mono inv.le,fR,⟨Nat.le_refl _,x.top j<|by omega⟩⟩;obtain⟨σ,a',w',g1,g2,g3,g4,g5⟩:=Gs hc hl ho aB (by rw[c2];exact aW) oj b k cs rest;rw[c2] at g1;refine⟨a',w',t1.h,u1,σ,⟨g2.rel,g2.tr,ah.le_trans inv.le g1.le,?_,?_,?_,inv.below.trans g4,g3.trans inv.defers,?_⟩,g5⟩
 ·intro m eZ hm;by_cases e:ρ m=mX m
  ·by_cases q:N j<=m/\m<N (j+1)
   ·exact⟨j,pW,(vy (by omega) j).2<|.inl rfl,q.1,q.2⟩
   ·exact absurd ((g1.out m eZ q).trans e) hm
  ·obtain⟨i,hi,DN,p⟩:=inv.new m eZ e;exact⟨i,hi,(vy (by omega) i).2<|.inr DN,p⟩
 ·intro m hm;by_cases q:Wr j m
  ·refine⟨j+1,G6 _ fun i hi hw dq=>?_,c3 m q⟩;obtain⟨w1,w2⟩:=x.wrote j m pW q;by_cases e:m<N j
   ·exact G8 i m hi dq hw<|w2 e
   ·obtain⟨y1,y2⟩:=x.wrote i m hi hw;have QZ:m<N i:=by
     rcases Nat.lt_or_ge i j with r|r
     ·have:=pk x (show i+1<=j from r) (by omega);omega
     ·have:=pk x (show j+1<=i from by omega) (by omega);omega
    cases gd:loose (Region.before ops) i j with
    |false=>rfl
    |true=>rw[Ob] at gd;exact absurd (y2 QZ)<|x.apart j i m pW hi (Ne.symm dq) gd q
  ·obtain⟨c,oH,jb⟩:=inv.heap m hm;exact⟨c,G7 _ c q oH,(c4 m q hm).trans jb⟩
 ·intro d;by_cases q:o.dst=some d
  ·refine⟨j+1,G6 _ fun i hi hw dq=>?_,?_⟩
   ·obtain⟨y,hy,xo⟩:=hw;exact pV.tK i j y o d dq hy ho xo<|.inr q
   ·rcases td v1 with⟨e,_⟩|⟨d1,e,hd,e3⟩
    ·rw[e] at q;cases q
    ·rw[q] at e;cases e;rcases td DM with⟨e,_⟩|⟨d2,e,Af,e4⟩
     ·rw[e] at q;cases q
     ·rw[q] at e;cases e;rw[e3,e4,Tr.mK _ _ _ _<|Nat.lt_of_lt_of_le hd fR,Tr.mK _ _ _ _<|Nat.lt_of_lt_of_le hd fR,if_pos rfl,if_pos rfl]
  ·obtain⟨c,oH,jb⟩:=inv.tK d;refine⟨c,G7 _ c (fun hw=>?_) oH,?_⟩
   ·obtain⟨y,hy,xo⟩:=hw;rw[ho] at hy;cases hy;exact q xo
   ·rw[←jb];rcases td DM with⟨_,e⟩|⟨d2,e,Af,e4⟩
    ·rw[e]
    ·rw[e4,Tr.mK _ _ _ _<|Nat.lt_of_lt_of_le Af fR,if_neg (by intro r;subst r;exact q e)]
 ·intro j' o' e gx hd hm hb;rw[vy<|by omega] at hd ⊢;rcases hd with rfl|hd
  ·rw[ho] at gx;cases gx;exact .inr<|HE e hm hb
  ·exact .inr<|inv.closed j' o' e gx hd hm hb
theorem Bd(n i:Nat):¬gp (Array.replicate n false) i:=by
 unfold gp;rw[Array.getD_eq_getD_getElem?];by_cases h:i<n
 ·simp[h]
 ·simp[h]
theorem Kn(bX:P.follows .mixedOrders=true)(pV:zk ops)(hc:dm P B Sy)(hl:∀t a,Sx<|Sy t a){id:Nat}{t t1:Tr AV}{s s1:AS}{ρ:ah}{a:Act}{w:World}(aB:At B ρ s nt t w a)(hf:bH s.nx s1.nx ρ)(h:nM P Sy nt ops t s= .ok t1 s1)(b:Frame)(k:List Item)(cs:List Frame):
 tZ P B ρ s s1 nt t1 w a (lone (b.atR a<|.code (.region id ops true)::k) cs w) (fun a' w'=>lone (b.atR a' k) cs w'):=by
 obtain⟨⟨t',ms⟩,s',h1,h2⟩:=M.aI (show((gT P Sy nt ops ops.toList 0 t).bind fun x=>ay (j0 (Region.before ops) x.2 x.2) <| M.pure x.1) s= .ok t1 s1 from h);obtain⟨h3,h4⟩:=bM h2;obtain⟨rfl,rfl⟩:=aM h4;obtain⟨f',H,N,T,Rd,Wr,a1,a2,a3,a4,a5,a6,x⟩:=Nl hl aB.nt aB.bg h1 h3;have gV:bH (N 0) (N ops.size) ρ:=by rw[a2,a5];exact hf
 let w1:World:={w with drawn:=w.drawn+1};have PW:Rel B ρ s.h w1:=aB.rel.wq<|dj.drew w;have PX:Inv B ops nt H N T Wr ρ w a (Array.replicate ops.size false) a w1 s.h t ρ:=by refine⟨PW,aB.tr,ah.le_refl ρ,fun m _ hm=>absurd rfl hm,fun m _=>⟨0,⟨Nat.zero_le _,fun i _ _=>⟨fun q=>absurd q<|Bd _ _,fun q=>absurd q<|Nat.not_lt_zero _⟩⟩,by rw[a1]⟩,fun d=>⟨0,⟨Nat.zero_le _,fun i _ _=>⟨fun q=>absurd q<|Bd _ _,fun q=>absurd q<|Nat.not_lt_zero _⟩⟩,by rw[a3]⟩,(dj.drew w).below aB.rel.size,rfl,fun j o e _ q=>absurd q<|Bd _ _⟩
 obtain⟨l',a',w',z1,z2,⟨h',t',sg,inv⟩,z3⟩:=LG (P:=P) pV.HT b k cs (fun listed a2 w2=>∃h' t' sg,Inv B ops nt H N T Wr ρ w a listed a2 w2 h' t' sg)
  (fun listed a2 w2 i o rest q1 ⟨h',t',sg,inv⟩ q3 q4 q5=>by obtain⟨a3,w3,h3,t3,Q0,i3,st⟩:=MC pV x hc hl aB.nt aB.g gV q1 inv q3 q4 q5 b k cs rest;exact⟨a3,w3,⟨h3,t3,Q0,i3⟩,st⟩)
  ops.size (w.tape w.drawn<|.order b.fn id) (Array.replicate ops.size false) a w1 (by simp) (MA _) ⟨s.h,t,ρ,PX⟩
 have all:∀(W:Nat->Prop),Cut ops.size W (gp l') ops.size:=fun W=>⟨Nat.le_refl _,fun i hi _=>⟨fun _=>hi,fun _=>z2 i hi⟩⟩;have ua:∀m,m<top->s1.h.get m=h'.get m:=by intro m hm;obtain⟨c,c1,c2⟩:=inv.heap m hm;rw[c2, ←a4];exact yF (f:=fun c=>(H c).get m) (fun k hk hw=>x.l9 k m hk hw hm) (all _) c1
 have PY:∀d,t'.get d=(T ops.size).get d:=by intro d;obtain⟨c,c1,c2⟩:=inv.tK d;rw[c2];refine yF (f:=fun c=>(T c).get d) (fun k hk hw=>?_) c1<|all _;have cC:ops[k]? =some ops[k]:=Array.getElem?_eq_getElem hk;exact x.slot k _ d cC fun e=>hw ⟨_,cC,e⟩
 refine⟨sg,a',w',⟨inv.le,fun m eZ hm=>?_⟩,⟨?_,inv.rel.congr ua,aB.g.mono inv.le,aB.nt,f'⟩,inv.defers,inv.below,?_⟩
 ·by_cases e:sg m=ρ m
  ·exact e
  ·exfalso;obtain⟨i,hi,_,p1,p2⟩:=inv.new m eZ e;have q1:=pk x (Nat.zero_le i) (by omega);have q2:=pk x (show i+1<=ops.size from hi)<|Nat.le_refl _;exact hm ⟨by omega,by omega⟩
 ·rw[←a6];exact⟨inv.tr.1,fun i x hx=>inv.tr.2 i x (by rw[PY i];exact hx)⟩
 ·refine .head stepR_region_draw ?_;simp only[Region.schedule,bX,Bool.true_or,if_true];exact z3
end
end Go.Rn
namespace Go.Rn
open Go.RowKit
def vP(ρ:ah):Option Nat->Option Nat->Prop
 |none,none=>True
 |some l,some b=>∃N,ρ l=some (b,N)
 |_,_=>False
theorem vP.mono{ρ σ:ah}(h:ρ.le σ):∀{x y:Option Nat},vP ρ x y->vP σ x y
 |none,none,k=>k
 |some _,some _,⟨N,e⟩=>⟨N,h _ _ e⟩
 |none,some _,k=>k
 |some _,none,k=>k
def om(ρ:ah):List Nat->List Deferred->Prop
 |[],l=>l=[]
 |d::ds,l=>∃b N r,l={target:=.collected b,args:= #[]}::r/\ρ d=some (b,N)/\om ρ ds r
theorem om.mono{ρ σ:ah}(h:ρ.le σ):∀{x:List Nat} {y:List Deferred},om ρ x y->om σ x y
 |[],_,k=>k
 |_::_,_,⟨b,N,r,e,a,d⟩=>⟨b,N,r,e,h _ _ a,d.mono h⟩
def bK.fr:bK->AF
 | .go fr=>fr
 | .leave fr _=>fr
def Leaves(j:Option Code)(todo:List Item):Prop:=
 match j with
 |none=>todo=[]
 |some .ret=>∃k,todo= .code .ret::k
 |some (.exit id)=>∃k,todo= .code (.exit id)::k/\exitTo id k=none
 |some (.goto l)=>∃k,todo= .code (.goto l)::k/\gotoIn l k=none
 |_=>False
def bK.ok:bK->Prop
 | .go _=>True
 | .leave fr j=>Leaves j fr.todo
theorem Leaves.code{j:Option Code}{todo:List Item}(h:Leaves j todo):∀c,j=some c->dx c:=by intro c e;subst e;cases c<;>first|trivial|cases h
structure Fr (ρ:ah) (af:AF) (b:Frame) (a:Act):Prop where
 fn:b.fn=af.fn
 kind:b.kind= .normal
 round:vP ρ af.round b.roundOf
 defs:om ρ af.defers a.defers
 ok:eE af.todo
def gX(P:Program)(B:aC)(ρ:ah)(s s1:AS)(w:World)(af:AF)(b:Frame)(cs:List Frame)(m:Machine)(x:bK):Prop:=∃σ a' w',Ext s.nx s1.nx ρ σ/\At B σ s1 af.nt x.fr.tmps w' a'/\om σ x.fr.defers a'.defers/\bh B w w'/\(x.fr.fn=af.fn/\x.fr.nt=af.nt/\x.fr.round=af.round)/\eE x.fr.todo/\x.ok/\Steps P m (lone (b.atR a' x.fr.todo) cs w')
section
variable {P:Program} {B:aC} {ρ:ah} {w:World} {s s1:AS} {Sy:aD} {b:Frame} {a:Act} {cs:List Frame}
theorem sL{l:Nat}{r:Loop}(hb:w.heap[l]? =some (.loop r)):(Instr.getLoop l).run P w= .ok r w:=by simp[Instr.getLoop,getObj,Sem.run,hb]
theorem Ax{l:Nat}{r:Loop}{o:Obj}(hb:w.heap[l]? =some (.loop r)):(setObj l o).run P w= .ok () {w with heap:=w.heap.setIfInBounds l o}:=by simp[setObj,Sem.run,hb]
theorem sR{l:Nat}{o:U}(h:getLoop l s= .ok o s1):aY l s= .ok o s1/\∃st dA fn t nt ps aa bb d,o= .loop st dA fn t nt ps aa bb d:=by
 unfold getLoop at h;obtain⟨o',s2,h1,h2⟩:=M.aI h;split at h2
 ·obtain⟨rfl,rfl⟩:=aM h2;exact⟨h1,_,_,_,_,_,_,_,_,_,rfl⟩
 ·cases h2
theorem BC{st Ag:LoopState}{dA vX:Option Code}{fn nt d l:Nat}{t:Tr AV}{ps:List Tmp}{aa bb:Code}{u:Unit}{bl N:Nat}{s2:AS}(fi:aO s)(r:Rel B ρ s.h w)(hg:aY l s= .ok (.loop st dA fn t nt ps aa bb d) s2)(hl:ρ l=some (bl,N))(cC:∀c,vX=some c->dx c)(h:aZ l (some<|.loop Ag vX fn t nt ps aa bb d) s2= .ok u s1):
 s1.nx=s.nx/\∃q:Loop,w.heap[bl]? =some (.loop q)/\q.state=st/\q.pending=dA/\q.fn=fn/\TR ρ nt t q.tmps/\q.params=ps.toArray/\q.assign=aa/\q.body=bb/\nt<=top/\vK dA aa bb/\Rel B ρ s1.h {w with heap:=w.heap.setIfInBounds bl<|.loop {q with state:=Ag,pending:=vX}}/\bh B w {w with heap:=w.heap.setIfInBounds bl<|.loop {q with state:=Ag,pending:=vX}}:=by
 obtain⟨hx,fA,hh,bj⟩:=dW hg;have ht:l<top:=Nat.lt_of_lt_of_le hx fi.nx;obtain⟨o',hb,hO,hB⟩:=r.block ht fA hl;obtain⟨ta,db,M,rfl,oO,fR,hd,cr⟩:=hO;obtain⟨_,_,_,e1,e2⟩:=gj h;obtain⟨g3,g4⟩:=qi (o':=.loop {state:=Ag,pending:=vX,fn:=fn,tmps:=ta,params:=ps.toArray,assign:=aa,body:=bb,defers:=db}) hb;refine⟨by rw[e2,bj],_,hb,rfl,rfl,rfl,oO,rfl,rfl,rfl,fR,cr,?_,g3.below<|hB rfl⟩;rw[e1,hh];exact r.put ht fA rfl rfl hl rfl g3 g4 ⟨ta,db,M,rfl,oO,fR,hd,cC,cr.assign,cr.body⟩
theorem EK{l bl N:Nat}{p:Option Code}(fi:aO s)(r:Rel B ρ s.h w)(hl:ρ l=some (bl,N))(h:kD l s= .ok p s1):
 s1.nx=s.nx/\(∀c,p=some c->dx c)/\∃w',(Instr.endLoop bl).run P w= .ok p w'/\Rel B ρ s1.h w'/\bh B w w':=by
 unfold kD at h;obtain⟨o,s2,h1,h2⟩:=M.aI h;obtain⟨h3,st,dA,fn,t,nt,ps,aa,bb,d,rfl⟩:=sR h1;obtain⟨h4,h5⟩:=bM h2;obtain⟨u,s3,h6,h7⟩:=M.aI h5;obtain⟨rfl,rfl⟩:=aM h7;have fA:=(dW h3);have cC:∀c,p=some c->dx c:=by obtain⟨o',hb,hO,_⟩:=r.block (Nat.lt_of_lt_of_le fA.1 fi.nx) fA.2.1 hl;obtain⟨_,_,_,_,_,_,_,cr⟩:=hO;exact cr.dA
 obtain⟨e1,q,e2,e3,e4,_,_,_,_,_,_,_,e5,e6⟩:=BC fi r h3 hl cC h6;refine⟨e1,cC,_,?_,e5,e6⟩;have bO:(q.state == LoopState.busy)=false:=by rw[e3];cases st<;>first|rfl|cases h4
 simp only[Instr.endLoop,Sem.run_bind,sL e2,Result.andThen_ok,bO,Bool.false_eq_true,if_false,Ax e2,Sem.run_pure,e4]
theorem Eo{g:Operand}{ps:Array Tmp}{assign body:Code}{k:List Item}{l:Nat}{mark:List Deferred}{zH:World}{R:Value->World->Prop}(he:(Instr.enterLoop b.fn a.tmps ps assign body b.roundOf).run P w= .ok (l,mark) zH)(h:fm P ((do let d ←Deferred.ofValue (a.eval g) #[.func (.yield l) #[] #[]];invoke d.target d.args:Sem Next).run P zH) R):
 ∃v w',R v w'/\Steps P (lone (b.atR a<|.code (.rangeFunc g ps assign body)::k) cs w) (lone (b.atR {a with defers:=mark++a.defers}<|.endRangeFunc l::k) cs w'):=by
 have Ah:=Frame.eval_atR b {a with defers:=mark++a.defers}<|.inRangeFunc l::k;simp only[Frame.atR] at Ah;have iQ:(do let d ←resolve ({tmps:=a.tmps,defers:=mark++a.defers}:Act).eval {callee:=.value g,args:= #[.const<|.func (.yield l) #[] #[]],argTypes:= #[]} 0;invoke d.target d.args:Sem Next)=
  (do let d ←Deferred.ofValue (a.eval g) #[.func (.yield l) #[] #[]];invoke d.target d.args:Sem Next):=by
  have e1:({tmps:=a.tmps,defers:=mark++a.defers}:Act).eval g=a.eval g:=by cases g<;>rfl
  have e2:(#[Operand.const<|Value.func (Fn.yield l) #[] #[]]:Array Operand).map ({tmps:=a.tmps,defers:=mark++a.defers}:Act).eval= #[Value.func (Fn.yield l) #[] #[]]:=by simp[Act.eval]
  simp only[resolve,e1,e2]
 generalize hr:(do let d ←Deferred.ofValue (a.eval g) #[.func (.yield l) #[] #[]];invoke d.target d.args:Sem Next).run P zH=res at h;rw[←iQ] at hr;have zt:stepG P true {frame:=b.atR a<|.code (.rangeFunc g ps assign body)::k,callers:=cs,status:=.running,dying:=none} w=
  GStep.after (seen P b.fn ((Instr.enterLoop b.fn a.tmps ps assign body b.roundOf).runT P w #[]).2) (stepG.apply P true (b.atR {a with defers:=mark++a.defers}<|.inRangeFunc l::k) cs none (do let d ←resolve ({tmps:=a.tmps,defers:=mark++a.defers}:Act).eval {callee:=.value g,args:= #[.const<|.func (.yield l) #[] #[]],argTypes:= #[]} 0;invoke d.target d.args) zH):=by
  simp only[stepG,stepG.exec,Frame.atR,Sem.runT_eq,he,Ah]
 unfold fm at h;split at h
 ·rename_i v w';refine⟨v,w',h,.one<|step_lone_go ?_⟩;rw[zt,GStep.bare_after, ←finish_atR_inRangeFunc l v];simp[stepG.apply,hr]
 ·rename_i w';refine⟨undef,w',h,.one<|step_lone_go ?_⟩;rw[zt,GStep.bare_after, ←finish_atR_inRangeFunc l undef];simp[stepG.apply,hr]
 ·rename_i f args w';obtain⟨e,gz,fr,⟨v,rfl,hR⟩,qW,cw,Cb⟩:=h<|b.atR {a with defers:=mark++a.defers} (.inRangeFunc l::k)::cs;have qX:step P (lone (b.atR a<|.code (.rangeFunc g ps assign body)::k) cs w)= .next (lone (Frame.enter P f args .normal) (b.atR {a with defers:=mark++a.defers} (.inRangeFunc l::k)::cs) w'):=step_lone_go (by rw[zt,GStep.bare_after];simp[stepG.apply,hr,Frame.atR])
  refine⟨v,gz,hR,.head qX<|Steps.trans qW<|.one ?_⟩;rw[←finish_atR_inRangeFunc l v];exact step_leave_returned Cb
 ·rename_i l' f tmps Nm O7 w';obtain⟨v,gz,hR,qW⟩:=h (b.atR {a with defers:=mark++a.defers}<|.inRangeFunc l::k) cs;have qX:step P (lone (b.atR a<|.code (.rangeFunc g ps assign body)::k) cs w)= .next (lone (Frame.round l' f tmps Nm O7 .normal) (b.atR {a with defers:=mark++a.defers} (.inRangeFunc l::k)::cs) w'):=step_lone_go (by rw[zt,GStep.bare_after];simp[stepG.apply,hr,Frame.atR])
  refine⟨v,gz,hR,.head qX ?_⟩;rw[←finish_atR_inRangeFunc l v];exact qW
 ·cases h
end
end Go.Rn
namespace Go.Rn
open Go.RowKit
section
variable {P:Program} {B:aC} {ρ:ah} {w:World} {s s1:AS} {Sy:aD} {b:Frame} {a:Act} {cs:List Frame}
theorem sX{af:AF}{x:bK}(aW:Fr ρ af b a)(aB:At B ρ s af.nt af.tmps w a)(h1:x.fr.tmps=af.tmps)(h2:x.fr.defers=af.defers)(h3:x.fr.fn=af.fn/\x.fr.nt=af.nt/\x.fr.round=af.round)(h4:eE x.fr.todo)(h5:x.ok)(h6:Steps P (lone (b.atR a af.todo) cs w)<|lone (b.atR a x.fr.todo) cs w):gX P B ρ s s w af b cs (lone (b.atR a af.todo) cs w) x:=⟨ρ,a,w,Ext.refl _ _ _,by rw[h1];exact aB,by rw[h2];exact aW.defs,bh.refl _ _,h3,h4,h5,h6⟩
theorem FY{af fr:AF}(aW:Fr ρ af b a){k:List Item}{t:Tr AV}(hx:fr={af with tmps:=t,todo:=k})(hk:eE k)(h:tZ P B ρ s s1 af.nt t w a (lone (b.atR a af.todo) cs w) fun a' w'=>lone (b.atR a' k) cs w'):gX P B ρ s s1 w af b cs (lone (b.atR a af.todo) cs w)<|.go fr:=by subst hx;obtain⟨σ,a',w',e1,e2,e3,e4,e5⟩:=h;exact⟨σ,a',w',e1,e2,by rw[e3];exact aW.defs.mono e1.le,e4,⟨rfl,rfl,rfl⟩,hk,trivial,e5⟩
theorem Nn{fn nt:Nat}{t:Tr AV}{ps:Array Tmp}{assign body:Code}(aB:At B ρ s nt t w a)(h1:ρ s.nx=none)(h2:ρ (s.nx+1)=none)(l1:s.nx<top)(l2:s.nx+1<top)(cr:vK none assign body):
 ∃σ,Ext s.nx (s.nx+2) ρ σ/\σ s.nx=some (w.heap.size,0)/\σ (s.nx+1)=some (w.heap.size+1,0)/\
  (Instr.enterLoop fn a.tmps ps assign body none).run P w= .ok (w.heap.size+1,[{target:=.collected w.heap.size,args:= #[]}]) {w with heap:=(w.heap.push<|.deferred<|some []).push<|.loop {state:=.ready,pending:=none,fn,tmps:=a.tmps,params:=ps,assign,body,defers:=w.heap.size}}/\
  Rel B σ ((s.h.put s.nx<|some .defs).put (s.nx+1)<|some<|.loop .ready none fn t nt ps.toList assign body s.nx) {w with heap:=(w.heap.push<|.deferred<|some []).push<|.loop {state:=.ready,pending:=none,fn,tmps:=a.tmps,params:=ps,assign,body,defers:=w.heap.size}}/\
  bh B w {w with heap:=(w.heap.push<|.deferred<|some []).push<|.loop {state:=.ready,pending:=none,fn,tmps:=a.tmps,params:=ps,assign,body,defers:=w.heap.size}}:=by
 have r1:=aB.rel.new (n:=s.nx) (o:=.defs) (o':=.deferred<|some []) (N:=0) l1 h1 rfl rfl;have iZ:dM ρ s.nx (w.heap.size,0) (s.nx+1)=none:=by rw[fW ρ _<|by omega];exact h2
 have ub:ρ.le<|dM ρ s.nx (w.heap.size,0):=kJ h1;have wy:(dM ρ s.nx (w.heap.size,0)).le<|dM (dM ρ s.nx (w.heap.size,0)) (s.nx+1) (w.heap.size+1,0):=kJ iZ;have gb:({w with heap:=w.heap.push<|.deferred<|some []}:World).heap.size=w.heap.size+1:=by simp
 have r2:=r1.new (n:=s.nx+1) (o:=.loop .ready none fn t nt ps.toList assign body s.nx) (o':=.loop {state:=.ready,pending:=none,fn,tmps:=a.tmps,params:=ps,assign,body,defers:=w.heap.size}) (N:=0) l2 iZ rfl (by rw[gb];exact⟨a.tmps,w.heap.size,0,by simp,(aB.tr.mono ub).mono wy,aB.nt,wy _ _<|eQ _ _ _,cr⟩);rw[gb] at r2;refine⟨_,⟨ah.le_trans ub wy,fun k _ hk=>?_⟩,wy _ _<|eQ _ _ _,eQ _ _ _,?_,r2,?_⟩
 ·rw[fW _ _ (by omega),fW _ _<|by omega]
 ·simp only[Instr.enterLoop,Sem.run_bind,newObj,Sem.run,Result.andThen_ok,Sem.run_pure];simp
 ·exact((dj.alloc w _).trans<|dj.alloc _ _).below aB.rel.size
theorem No{fn nt l0 bl N:Nat}{t:Tr AV}{ps:Array Tmp}{assign body:Code}{st:LoopState}{dA:Option Code}{f0 uC d0:Nat}{t0:Tr AV}{uD:List Tmp}{a0 b0:Code}{s2:AS}(aB:At B ρ s nt t w a)(h1:ρ s.nx=none)(l1:s.nx<top)(cr:vK none assign body)(hg:aY l0 s= .ok (.loop st dA f0 t0 uC uD a0 b0 d0) s2)(hl:ρ l0=some (bl,N)):
 ∃σ w',Ext s.nx (s.nx+1) ρ σ/\(∃bb M,σ s.nx=some (bb,M)/\(Instr.enterLoop fn a.tmps ps assign body<|some bl).run P w= .ok (bb,[]) w')/\Rel B σ (s.h.put s.nx<|some<|.loop .ready none fn t nt ps.toList assign body d0) w'/\bh B w w':=by
 obtain⟨hx,fA,hh,bj⟩:=dW hg;have ht:l0<top:=Nat.lt_of_lt_of_le hx aB.bg.nx;obtain⟨o',hb,hO,hB⟩:=aB.rel.block ht fA hl;obtain⟨ta,db,M,rfl,oO,fR,hd,_⟩:=hO;have ub:ρ.le<|dM ρ s.nx (w.heap.size,0):=kJ h1;have r1:=aB.rel.new (n:=s.nx) (o:=.loop .ready none fn t nt ps.toList assign body d0) (o':=.loop {state:=.ready,pending:=none,fn,tmps:=a.tmps,params:=ps,assign,body,defers:=db}) (N:=0) l1 h1 rfl ⟨a.tmps,db,M,by simp,aB.tr.mono ub,aB.nt,ub _ _ hd,cr⟩;refine⟨_,_,Ext.lq h1,⟨w.heap.size,0,eQ _ _ _,?_⟩,r1,(dj.alloc w _).below aB.rel.size⟩;simp only[Instr.enterLoop,Sem.run_bind,sL hb,Result.andThen_ok,Sem.run_pure,newObj,Sem.run]
theorem Ep{p:Option Code}{k:List Item}(hp:∀c,p=some c->dx c)(hk:eE k):eE<|andThen p k:=by
 cases p with
 |none=>exact hk
 |some c=>exact .cons (hp c rfl) hk
theorem Fs(p:Option Code)(k:List Item):(p.map Item.code).toList++k=andThen p k:=by cases p<;>rfl
theorem LI{af:AF}{f:Operand}{ps:Array Tmp}{assign body:Code}{k:List Item}{x:bK}(hc:dm P B Sy)(hl:∀t a,Sx<|Sy t a)(aW:Fr ρ af b a)(aB:At B ρ s af.nt af.tmps w a)(hf:bH s.nx s1.nx ρ)(kR:af.todo= .code (.rangeFunc f ps assign body)::k)(h:za f ps.toList assign body Sy af.fn af.tmps af.nt af.defers af.round k s= .ok x s1):gX P B ρ s s1 w af b cs (lone (b.atR a af.todo) cs w) x:=by
 have tO:dx assign/\dx body:=by have:=aW.ok;rw[kR] at this;exact this.head
 have cr:vK none assign body:=⟨(fun c e=>by cases e),tO.1,tO.2⟩;have hk:eE k:=by have:=aW.ok;rw[kR] at this;exact this.tail
 unfold za at h;cases hr:af.round with
 |none=>
  rw[hr] at h;have hY:=aW.round;rw[hr] at hY;have xp:b.roundOf=none:=by
   cases e:b.roundOf with
   |none=>rfl
   |some _=>rw[e] at hY;cases hY
  obtain⟨df,s2,h1,h⟩:=M.aI h;obtain⟨l,s3,h2,h⟩:=M.aI h;obtain⟨g,h3,h⟩:=aX h;obtain⟨y,s4,h4,h⟩:=M.aI h;obtain⟨p,s5,h5,h⟩:=M.aI h;obtain⟨rfl,rfl⟩:=aM h;obtain⟨t1,rfl,rfl⟩:=jQ h1;obtain⟨t2,rfl,rfl⟩:=jQ h2;have eN:aO {s with h:=(s.h.put s.nx<|some .defs).put (s.nx+1)<|some<|.loop .ready none af.fn af.tmps af.nt ps.toList assign body s.nx,nx:=s.nx+1+1}:=⟨by have:=aB.bg.mark;show s.mark<=s.nx+1+1;omega,t2⟩;have xq:=(Sx.ib hl _ _).le eN h4;have gf:=(Sx.ib hl _ _).bg eN h4;have DO:=(Sx.kD _).le gf h5;have C6:s.nx+2<=s4.nx:=xq;obtain⟨σ,e1,e2,e3,e4,e5,e6⟩:=Nn (P:=P) (fn:=af.fn) (ps:=ps) aB (hf _ (Nat.le_refl _) (by omega)<|by omega) (hf _ (by omega) (by omega)<|by omega) t1 t2 cr;have lz:VR σ g<|a.eval f:=(vG aB.tr aB.g h3).mono e1.le;have gV:bH (s.nx+2) s4.nx σ:=(hf.sub (Nat.le_refl _) DO).next (by omega) e1
  have CH:=FT (P:=P) hc (aB.g.mono e1.le) eN e5 gV lz (args:=[.yield<|s.nx+1]) (vs:= #[.func (.yield<|w.heap.size+1) #[] #[]]) (by simp only[aq,VR];exact⟨_,_,rfl,⟨_,_,e3,rfl⟩,rfl⟩) h4;have wz:=(show(Instr.enterLoop b.fn a.tmps ps assign body b.roundOf).run P w=(Instr.enterLoop af.fn a.tmps ps assign body none).run P w by rw[aW.fn,xp]).trans e4;obtain⟨v,w',⟨τ,g1,g2,g3,g4⟩,st⟩:=Eo (cs:=cs) (k:=k) wz CH;obtain⟨q1,q2,w5,q3,q4,q5⟩:=EK (P:=P) gf g3 (g1.le _ _ e3) h5;have ext:Ext s.nx s4.nx ρ τ:=e1.trans (by omega) C6 g1;refine⟨τ,{a with defers:=[{target:=.collected w.heap.size,args:= #[]}]++a.defers},w5,by rw[q1];exact ext,⟨aB.tr.mono ext.le,q4,aB.g.mono ext.le,aB.nt,(Sx.kD _).bg gf h5⟩,?_,(e6.trans g4).trans q5,⟨rfl,rfl,hr.symm⟩,Ep q2 hk,trivial,?_⟩
  ·exact⟨w.heap.size,0,a.defers,rfl,g1.le _ _ e2,aW.defs.mono ext.le⟩
  ·rw[kR];refine Steps.trans st<|.one ?_;rw[stepR_endRangeFunc q3,Fs];rfl
 |some l0=>
  rw[hr] at h;have hY:=aW.round;rw[hr] at hY;obtain⟨bl,xp,N0,DP⟩:∃bl,b.roundOf=some bl/\∃N,ρ l0=some (bl,N):=by
   cases e:b.roundOf with
   |none=>rw[e] at hY;cases hY
   |some bl=>rw[e] at hY;exact⟨bl,rfl,hY⟩
  obtain⟨ob,s2,h1,h⟩:=M.aI h;obtain⟨oG,SY,SJ,f0,t0,uC,uD,a0,b0,d0,rfl⟩:=sR h1;obtain⟨l,s3,h2,h⟩:=M.aI h;obtain⟨g,h3,h⟩:=aX h;obtain⟨y,s4,h4,h⟩:=M.aI h;obtain⟨p,s5,h5,h⟩:=M.aI h;obtain⟨rfl,rfl⟩:=aM h;obtain⟨hx,fA,hh,bj⟩:=dW oG;have bR:aO s2:=(Sx.aY _).bg aB.bg oG;obtain⟨t2,rfl,rfl⟩:=jQ h2;have eN:aO {s2 with h:=s2.h.put s2.nx<|some<|.loop .ready none af.fn af.tmps af.nt ps.toList assign body d0,nx:=s2.nx+1}:=⟨by have:=bR.mark;show s2.mark<=s2.nx+1;omega,t2⟩;have xq:=(Sx.ib hl _ _).le eN h4;have gf:=(Sx.ib hl _ _).bg eN h4;have DO:=(Sx.kD _).le gf h5;have C6:s2.nx+1<=s4.nx:=xq;obtain⟨σ,w2,e1,⟨bb,M2,e3,e4⟩,e5,e6⟩:=No (P:=P) (fn:=af.fn) (ps:=ps) aB (hf _ (Nat.le_refl _) (by omega)<|by omega) (by rw[←bj];omega) cr oG DP;rw[←hh, ←bj] at e5;rw[←bj] at e1 e3;have lz:VR σ g<|a.eval f:=(vG aB.tr aB.g h3).mono e1.le;have gV:bH (s2.nx+1) s4.nx σ:=(show bH s2.nx s4.nx ρ by rw[bj];exact hf.sub (Nat.le_refl _) DO).next (by omega) e1
  have CH:=FT (P:=P) hc (aB.g.mono e1.le) eN e5 gV lz (args:=[.yield s2.nx]) (vs:= #[.func (.yield bb) #[] #[]]) (by simp only[aq,VR];exact⟨_,_,rfl,⟨_,_,e3,rfl⟩,rfl⟩) h4;have wz:=(show(Instr.enterLoop b.fn a.tmps ps assign body b.roundOf).run P w=(Instr.enterLoop af.fn a.tmps ps assign body<|some bl).run P w by rw[aW.fn,xp]).trans e4;obtain⟨v,w',⟨τ,g1,g2,g3,g4⟩,st⟩:=Eo (cs:=cs) (k:=k) wz CH;obtain⟨q1,q2,w5,q3,q4,q5⟩:=EK (P:=P) gf g3 (g1.le _ _ e3) h5;have ext:Ext s.nx s4.nx ρ τ:=by rw[←bj];exact e1.trans (by omega) C6 g1
  refine⟨τ,{a with defers:=[]++a.defers},w5,by rw[q1];exact ext,⟨aB.tr.mono ext.le,q4,aB.g.mono ext.le,aB.nt,(Sx.kD _).bg gf h5⟩,?_,(e6.trans g4).trans q5,⟨rfl,rfl,hr.symm⟩,Ep q2 hk,trivial,?_⟩
  ·exact aW.defs.mono ext.le
  ·rw[kR];refine Steps.trans st<|.one ?_;rw[stepR_endRangeFunc q3,Fs];rfl
end
end Go.Rn
namespace Go.Rn
open Go.RowKit
theorem JQ{P:Program}{b:Frame}{a:Act}{k:List Item}{cs:List Frame}{w:World}{c:Code}:step P (lone (b.atR a<|.inScope c::k) cs w)= .next (lone (b.atR a k) cs w):=step_lone_go (by simp[stepG,stepG.exec,Frame.atR])
theorem Ko{P:Program}{b:Frame}{a:Act}{k:List Item}{cs:List Frame}{w:World}{c:Code}:step P (lone (b.atR a<|.code (.scope c)::k) cs w)= .next (lone (b.atR a<|.code c:: .inScope c::k) cs w):=step_lone_go (by simp[stepG,stepG.exec,Frame.atR])
section
variable {P:Program} {B:aC} {ρ:ah} {w:World} {s s1:AS} {Sy:aD} {b:Frame} {a:Act} {cs:List Frame}
theorem LJ{l bl N:Nat}{dA:Option Code}{f0 uC d0:Nat}{t0:Tr AV}{uD:List Tmp}{a0 b0:Code}{u:Unit}{s2:AS}(fi:aO s)(r:Rel B ρ s.h w)(hl:ρ l=some (bl,N))(hg:aY l s= .ok (.loop .ready dA f0 t0 uC uD a0 b0 d0) s2)(h:aZ l (some<|.loop .busy dA f0 t0 uC uD a0 b0 d0) s2= .ok u s1):
 s1.nx=s.nx/\∃w',(Instr.beginRound bl).run P w= .ok () w'/\Rel B ρ s1.h w'/\bh B w w':=by
 have fA:=dW hg;have cC:∀c,dA=some c->dx c:=by obtain⟨o',hb,hO,_⟩:=r.block (Nat.lt_of_lt_of_le fA.1 fi.nx) fA.2.1 hl;obtain⟨_,_,_,_,_,_,_,cr⟩:=hO;exact cr.dA
 obtain⟨e1,q,e2,e3,e4,_,_,_,_,_,_,_,e5,e6⟩:=BC fi r hg hl cC h;refine⟨e1,_,?_,e5,e6⟩;subst e4;simp only[Instr.beginRound,Sem.run_bind,sL e2,Result.andThen_ok,Ax e2,e3,Sem.run_pure]
theorem vd(bX:P.follows .mixedOrders=true)(hc:dm P B Sy)(hl:∀t a,Sx<|Sy t a){af:AF}{x:bK}(aW:Fr ρ af b a)(aB:At B ρ s af.nt af.tmps w a)(hf:bH s.nx s1.nx ρ)(h:fx P Sy af s= .ok x s1):gX P B ρ s s1 w af b cs (lone (b.atR a af.todo) cs w) x:=by
 obtain⟨fn,t,nt,todo,d,r⟩:=af;cases todo with
 |nil=>obtain⟨rfl,rfl⟩:=aM (show M.pure (.leave ⟨fn,t,nt,[],d,r⟩ none) s= .ok x s1 from h);exact sX aW aB rfl rfl ⟨rfl,rfl,rfl⟩ .nil rfl<|Steps.refl _ _
 |cons it k=>
  have hk:eE k:=aW.ok.tail;have lA:y8 it:=aW.ok.head;have h':(zp P it).val Sy fn t nt d r k s= .ok x s1:=h;have calm:∀(l:List Item),eE l->M.pure (.go ⟨fn,t,nt,l,d,r⟩) s= .ok x s1->step P (lone (b.atR a<|it::k) cs w)= .next (lone (b.atR a l) cs w)->gX P B ρ s s1 w ⟨fn,t,nt,it::k,d,r⟩ b cs (lone (b.atR a<|it::k) cs w) x:=by intro l iC hp hs;obtain⟨rfl,rfl⟩:=aM hp;exact sX aW aB rfl rfl ⟨rfl,rfl,rfl⟩ iC trivial<|.one hs
  cases it with
  |code c=>
   cases c with
   |skip=>exact calm k hk h' stepR_skip
   |label l=>exact calm k hk h' stepR_label
   |seq p q=>exact calm (.code p:: .code q::k) (.cons lA.1<|.cons lA.2 hk) h' stepR_seq
   |cond c p q=>
    obtain⟨v,h1,h2⟩:=aX (show(aA (ak t c) fun v=>aA (vN v) fun v=>M.pure<|.go ⟨fn,t,nt,.code (@Bool.rec (fun _=>Code) q p v)::k,d,r⟩) s= .ok x s1 from h');obtain⟨y,h3,h4⟩:=aX h2;have hv:=(vG aB.tr aB.g h1).Gq h3;cases y with
    |true=>exact calm (.code p::k) (.cons lA.1 hk) h4<|stepR_cond hv
    |false=>exact calm (.code q::k) (.cons lA.2 hk) h4<|stepR_cond hv
   |block id c=>exact calm (.code c:: .inBlock id::k) (.cons lA<|.cons trivial hk) h' stepR_block
   |loop c=>exact calm (.code c:: .inLoop c::k) (.cons lA<|.cons lA hk) h' stepR_loop
   |scope c=>exact calm (.code c:: .inScope c::k) (.cons lA<|.cons lA hk) h' Ko
   |exit id=>
    have h2:zn id Sy fn t nt d r k s= .ok x s1:=h';unfold zn at h2;cases e:exitTo id k with
    |some k'=>rw[e] at h2;exact calm k' (A6 e hk) h2<|stepR_exit e
    |none=>rw[e] at h2;obtain⟨rfl,rfl⟩:=aM h2;exact sX aW aB rfl rfl ⟨rfl,rfl,rfl⟩ aW.ok ⟨k,rfl,e⟩<|Steps.refl _ _
   |goto l=>
    have h2:zo l Sy fn t nt d r k s= .ok x s1:=h';unfold zo at h2;cases e:gotoIn l k with
    |some k'=>rw[e] at h2;exact calm k' (A7 e hk) h2<|stepR_goto e
    |none=>rw[e] at h2;obtain⟨rfl,rfl⟩:=aM h2;exact sX aW aB rfl rfl ⟨rfl,rfl,rfl⟩ aW.ok ⟨k,rfl,e⟩<|Steps.refl _ _
   |ret=>obtain⟨rfl,rfl⟩:=aM (show M.pure (.leave ⟨fn,t,nt,.code .ret::k,d,r⟩<|some .ret) s= .ok x s1 from h');exact sX aW aB rfl rfl ⟨rfl,rfl,rfl⟩ aW.ok ⟨k,rfl⟩<|Steps.refl _ _
   |region id ops draw=>
    cases draw with
    |false=>obtain⟨t1,s2,h1,h2⟩:=M.aI (show((fj P Sy nt ops ops.toList t).bind fun t=>M.pure<|.go ⟨fn,t,nt,k,d,r⟩) s= .ok x s1 from h');obtain⟨rfl,rfl⟩:=aM h2;exact FY aW rfl hk<|Le hc hl aB hf h1 b k cs
    |true=>obtain⟨t1,s2,h1,h2⟩:=M.aI (show((nM P Sy nt ops t).bind fun t=>M.pure<|.go ⟨fn,t,nt,k,d,r⟩) s= .ok x s1 from h');obtain⟨rfl,rfl⟩:=aM h2;exact FY aW rfl hk<|Kn bX (lA rfl) hc hl aB hf h1 b k cs
   |rangeFunc f ps p q=>exact LI hc hl aW aB hf rfl h'
   |refuse SZ=>cases h'
  |inBlock id=>exact calm k hk h' stepR_inBlock
  |inScope c=>exact calm k hk h' JQ
  |inLoop c=>exact calm (.code c:: .inLoop c::k) (.cons lA<|.cons lA hk) h' stepR_inLoop
  |beginRound=>
   have h2:zb Sy fn t nt d r k s= .ok x s1:=h';unfold zb at h2;cases r with
   |none=>cases h2
   |some l=>
    obtain⟨bl,xp,N0,DP⟩:∃bl,b.roundOf=some bl/\∃N,ρ l=some (bl,N):=by
     have hY:=aW.round;cases e:b.roundOf with
     |none=>rw[e] at hY;cases hY
     |some bl=>rw[e] at hY;exact⟨bl,rfl,hY⟩
    obtain⟨o,s2,h3,h4⟩:=M.aI h2;obtain⟨h5,st,dA,f0,t0,uC,uD,a0,b0,d0,rfl⟩:=sR h3;cases st<;>first|(cases h4;done)|skip
    obtain⟨u,s3,h6,h7⟩:=M.aI h4;obtain⟨rfl,rfl⟩:=aM h7;obtain⟨e1,w',e2,e3,e4⟩:=LJ (P:=P) aB.bg aB.rel DP h5 h6;have bR:aO s1:=(Sx.aZ _ _).bg ((Sx.aY _).bg aB.bg h5) h6;exact⟨ρ,a,w',by rw[e1];exact Ext.refl _ _ _,⟨aB.tr,e3,aB.g,aB.nt,bR⟩,aW.defs,e4,⟨rfl,rfl,rfl⟩,hk,trivial,.one<|stepR_beginRound xp e2⟩
  |_=>cases h'
theorem gX.CJ{af:AF}{fr:AF}{x:bK}{s2:AS}{m:Machine}(aW:Fr ρ af b a)(h:gX P B ρ s s2 w af b cs m<|.go fr)(fD:s.nx<=s2.nx)(jK:s2.nx<=s1.nx)(k:∀(σ:ah) (a':Act) (w':World),Ext s.nx s2.nx ρ σ->Fr σ fr b a'->At B σ s2 fr.nt fr.tmps w' a'->gX P B σ s2 s1 w' fr b cs (lone (b.atR a' fr.todo) cs w') x):gX P B ρ s s1 w af b cs m x:=by obtain⟨σ,a',w',e1,e2,e3,e4,⟨e5,e6,e7⟩,e8,_,e9⟩:=h;have dV:fr.nt=af.nt:=e6;obtain⟨τ,rY,gz,f1,f2,f3,f4,⟨f5,f6,f7⟩,f8,f9,f10⟩:=k σ a' w' e1 ⟨aW.fn.trans e5.symm,aW.kind,by have:=aW.round.mono e1.le;rw[←e7] at this;exact this,e3,e8⟩ (by rw[dV];exact e2);exact⟨τ,rY,gz,e1.trans fD jK f1,by rw[dV] at f2;exact f2,f3,e4.trans f4,⟨f5.trans e5,f6.trans e6,f7.trans e7⟩,f8,f9,Steps.trans e9 f10⟩
theorem ve(bX:P.follows .mixedOrders=true)(hc:dm P B Sy)(hl:∀t a,Sx<|Sy t a):∀(n:Nat) {ρ:ah} {w:World} {s s1:AS} {a:Act} {af:AF} {x:bK},Fr ρ af b a->At B ρ s af.nt af.tmps w a->bH s.nx s1.nx ρ->
 ig P Sy n af s= .ok x s1->gX P B ρ s s1 w af b cs (lone (b.atR a af.todo) cs w) x
 |0,ρ,w,s,s1,a,af,x,aW,aB,hf,h=>vd bX hc hl aW aB hf h
 |n+1,ρ,w,s,s1,a,af,x,aW,aB,hf,h=>by
  obtain⟨y,s2,h1,h2⟩:=M.aI (show((ig P Sy n af).bind fun x=> @bK.rec (fun _=>M bK) (ig P Sy n) (fun fr j=>M.pure<|.leave fr j) x) s= .ok x s1 from h);have fD:=(Sx.ig P hl n af).le aB.bg h1;have bR:=(Sx.ig P hl n af).bg aB.bg h1;cases y with
  |go fr=>have jI:ig P Sy n fr s2= .ok x s1:=h2;have jK:=(Sx.ig P hl n fr).le bR jI;have w1:=ve bX hc hl n aW aB (hf.sub (Nat.le_refl _) jK) h1;exact w1.CJ aW fD jK fun σ a' w' e1 ry rz=>ve bX hc hl n ry rz (hf.next fD e1) jI
  |leave fr j=>obtain⟨rfl,rfl⟩:=aM (show M.pure (.leave fr j) s2= .ok x s1 from h2);exact ve bX hc hl n aW aB hf h1
theorem Be(bX:P.follows .mixedOrders=true)(hc:dm P B Sy)(hl:∀t a,Sx<|Sy t a):∀(n k:Nat) {ρ:ah} {w:World} {s s1:AS} {a:Act} {af:AF} {x:bK},Fr ρ af b a->At B ρ s af.nt af.tmps w a->bH s.nx s1.nx ρ->
 iL P Sy n k af s= .ok x s1->gX P B ρ s s1 w af b cs (lone (b.atR a af.todo) cs w) x
 |0,k,ρ,w,s,s1,a,af,x,aW,aB,hf,h=>by cases h
 |n+1,k,ρ,w,s,s1,a,af,x,aW,aB,hf,h=>by
  obtain⟨y,s2,h1,h2⟩:=M.aI (show((ig P Sy k af).bind fun x=> @bK.rec (fun _=>M bK) (fun fr=>iL P Sy n (Nat.succ k) fr) (fun fr j=>M.pure<|.leave fr j) x) s= .ok x s1 from h);have fD:=(Sx.ig P hl k af).le aB.bg h1;have bR:=(Sx.ig P hl k af).bg aB.bg h1;cases y with
  |go fr=>have jI:iL P Sy n (k+1) fr s2= .ok x s1:=h2;have jK:=(Sx.iL P hl n (k+1) fr).le bR jI;have w1:=ve (b:=b) (cs:=cs) bX hc hl k aW aB (hf.sub (Nat.le_refl _) jK) h1;exact w1.CJ aW fD jK fun σ a' w' e1 ry rz=>Be bX hc hl n (k+1) ry rz (hf.next fD e1) jI
  |leave fr j=>obtain⟨rfl,rfl⟩:=aM (show M.pure (.leave fr j) s2= .ok x s1 from h2);exact ve bX hc hl k aW aB hf h1
end
end Go.Rn
namespace Go.Rn
open Go.RowKit
section
variable {P:Program} {B:aC} {ρ:ah} {w:World} {s s1:AS} {Sy:aD}
theorem AA{nt:Nat}(fR:nt<=top):∀{ps:List Tmp} {args:List AV} {vs:List Value} {t:Tr AV} {arr:Array Value},TR ρ nt t arr->aq ρ args vs->(∀p∈ps,p<nt)->
 TR ρ nt (jh ps args t) ((ps.zip vs).foldl (fun tmps (t,a)=>tmps.setIfInBounds t a) arr)
 |[],args,vs,t,arr,h,_,_=>by simpa[jh] using h
 |p::ps,[],vs,t,arr,h,hv,_=>by simp only[aq] at hv;subst hv;simpa[jh] using h
 |p::ps,v::args,vs,t,arr,h,hv,hp=>by simp only[aq] at hv;obtain⟨u,us,rfl,h1,h2⟩:=hv;simp only[jh,List.zip_cons_cons,List.foldl_cons];exact AA fR (h.set (hp p List.mem_cons_self) fR h1) h2 fun q hq=>hp q<|List.mem_cons_of_mem _ hq
theorem EL{l bl N:Nat}{j:Option Code}{x:AV}(fi:aO s)(r:Rel B ρ s.h w)(hl:ρ l=some (bl,N))(hj:∀c,j=some c->dx c)(h:endRound l j s= .ok x s1):
 s1.nx=s.nx/\x= .bool j.isNone/\∃w',(Instr.endRound bl j).run P w= .ok (.bool j.isNone) w'/\Rel B ρ s1.h w'/\bh B w w':=by
 unfold endRound at h;obtain⟨o,s2,h1,h2⟩:=M.aI h;obtain⟨h3,st,dA,fn,t,nt,ps,aa,bb,d,rfl⟩:=sR h1;obtain⟨u,s3,h4,h5⟩:=M.aI h2;obtain⟨rfl,rfl⟩:=aM h5;obtain⟨e1,q,e2,e3,e4,_,_,_,_,_,_,_,e5,e6⟩:=BC fi r h3 hl hj h4;refine⟨e1,rfl,_,?_,e5,e6⟩;cases j<;>simp only[Instr.endRound,Sem.run_bind,sL e2,Result.andThen_ok,Ax e2,Sem.run_pure]<;>rfl
theorem LK(bX:P.follows .mixedOrders=true)(hc:dm P B Sy)(hl:∀t a,Sx<|Sy t a){l bl N:Nat}{args:List AV}{vs:Array Value}{x:AV}(fi:aO s)(r:Rel B ρ s.h w)(hg:dN ρ)(hf:bH s.nx s1.nx ρ)(h:qA P Sy l args s= .ok x s1)(hv:aq ρ args vs.toList)(si:ρ l=some (bl,N)):fm P ((Instr.yield bl vs).run P w)<|fM B ρ s s1 w x:=by
 unfold qA at h;obtain⟨o,s2,h1,h2⟩:=M.aI h;obtain⟨h3,st,dA,fn,t,nt,ps,aa,bb,d,rfl⟩:=sR h1;obtain⟨h4,h5⟩:=bM h2;obtain⟨y,s3,h6,h7⟩:=M.aI h5;obtain⟨q1,q2⟩:=and_true.1 h4;have hlen:=cj.1 q1;have DQ:∀p∈ps,p<nt:=fun p hp=>by have:=List.all_eq_true.1 q2 p hp;rw[←blt_eq];exact this
 obtain⟨hx,fA,hh,bj⟩:=dW h3;have bR:aO s2:=(Sx.aY _).bg fi h3;have aS:l<top:=Nat.lt_of_lt_of_le hx fi.nx;obtain⟨o',hb,hO,hB⟩:=r.block aS fA si;obtain⟨ta,db,M,rfl,oO,fR,hd,cr⟩:=hO;have Cc:(Instr.yield bl vs).run P w= .ok (.round bl fn ((ps.zip vs.toList).foldl (fun tmps (t,a)=>tmps.setIfInBounds t a) ta) aa bb) w:=by
  have gb:¬(vs.size≠ps.toArray.size):=by have:=hv.length;simp at this ⊢;omega
  simp only[Instr.yield,Sem.run_bind,sL hb,Result.andThen_ok,if_neg gb,Sem.run_pure];rw[←Array.foldl_toList];simp
 rw[Cc];intro c cs;cases y with
 |go fr=>cases h7
 |leave fr j=>
  have rR:endRound l j s3= .ok x s1:=h7;let b:Frame:={(default:Frame) with fn:=fn,kind:=.normal,roundOf:=some bl};let a:Act:={tmps:=(ps.zip vs.toList).foldl (fun tmps (t,a)=>tmps.setIfInBounds t a) ta,defers:=[]};have jK:=(Sx.iL P hl depth 2 ⟨fn,jh ps args t,nt,[.code aa,.beginRound,.code bb],[],some l⟩).le bR h6;have eN:=(Sx.iL P hl depth 2 ⟨fn,jh ps args t,nt,[.code aa,.beginRound,.code bb],[],some l⟩).bg bR h6;have xr:=(Sx.endRound l j).le eN rR;have aW:Fr ρ ⟨fn,jh ps args t,nt,[.code aa,.beginRound,.code bb],[],some l⟩ b a:=⟨rfl,rfl,⟨N,si⟩,rfl,.cons cr.assign<|.cons trivial<|.cons cr.body .nil⟩;have aB:At B ρ s2 nt (jh ps args t) w a:=⟨AA fR oO hv DQ,by rw[hh];exact r,hg,fR,bR⟩;obtain⟨σ,a',w',e1,e2,e3,e4,_,_,e6,e7⟩:=Be (cs:=c::cs) bX hc hl depth 2 aW aB (by rw[bj];exact hf.sub (Nat.le_refl _) xr) h6;have dV:Leaves j fr.todo:=e6;obtain⟨f1,rfl,gz,f2,f3,f4⟩:=EL (P:=P) eN e2.rel (e1.le _ _ si) dV.code rR;refine⟨.bool j.isNone,gz,⟨σ,by rw[f1, ←bj];exact e1,by simp only[VR],f3,e4.trans f4⟩,?_⟩;have jY:Frame.round bl fn ((ps.zip vs.toList).foldl (fun tmps (t,a)=>tmps.setIfInBounds t a) ta) aa bb .normal=b.atR a [.code aa,.beginRound,.code bb]:=rfl;rw[jY];refine Steps.trans e7<|.one ?_;show step P (lone (b.atR a' fr.todo) (c::cs) w')=_;unfold Leaves at dV;split at dV
  ·rw[dV];exact stepR_round_end rfl rfl f2
  ·obtain⟨k,e⟩:=dV;rw[e];exact stepR_round_ret rfl rfl f2
  ·obtain⟨k,e,e'⟩:=dV;rw[e];exact stepR_round_exit rfl rfl e' f2
  ·obtain⟨k,e,e'⟩:=dV;rw[e];exact stepR_round_goto rfl rfl e' f2
  ·cases dV
theorem J4{nt:Nat}{t:Tr AV}{tmps:Array Value}{rv:ResultVar}{x:AV}(ht:TR ρ nt t tmps)(fi:aO s)(r:Rel B ρ s.h w)(h:qy P t rv s= .ok x s1):
 s1.h=s.h/\s1.nx=s.nx/\aO s1/\∃v,(match rv with| .tmp t=>pure (tmps.getD t undef)| .cell a t=>do Go.loadVar t (←asAddr (tmps.getD a undef)):Sem Value).run P w= .ok v w/\VR ρ x v:=by
 cases rv with
 |tmp i=>obtain⟨hx,rfl⟩:=de (show lift (t.get i) s= .ok x s1 from h);exact⟨rfl,rfl,fi,_,rfl,ht.2 i x hx⟩
 |cell a ty=>
  obtain⟨ad,s2,h1,h2⟩:=M.aI (show((lift (match t.get a with|some x=>addrOf x|none=>none)).bind fun a=>Rn.loadVar P ty a.1 a.2) s= .ok x s1 from h);obtain⟨h3,hs⟩:=de h1;subst hs;cases DR:t.get a with
  |none=>rw[DR] at h3;cases h3
  |some xa=>
  rw[DR] at h3;obtain⟨b,N,h4,h5⟩:=(ht.2 a xa DR).By h3;obtain⟨a1,a2,v,a3,a4⟩:=ES (P:=P) fi r h2 h4;exact⟨a1,a2,(Sx.loadVar P ty _ _).bg fi h2,v,by simp[h5,asAddr,a3],a4⟩
theorem sM{nt:Nat}{t:Tr AV}{tmps:Array Value}(ht:TR ρ nt t tmps):∀{l:List ResultVar} {vs:List AV} {s s1:AS},aO s->Rel B ρ s.h w->jP P t l s= .ok vs s1->
 s1.h=s.h/\s1.nx=s.nx/\∃us,(l.mapM fun| .tmp t=>pure (tmps.getD t undef)| .cell a t=>do Go.loadVar t (←asAddr (tmps.getD a undef)):Sem<|List Value).run P w= .ok us w/\aq ρ vs us
 |[],vs,s,s1,fi,r,h=>by obtain⟨rfl,rfl⟩:=aM (show M.pure [] s= .ok vs s1 from h);exact⟨rfl,rfl,[],rfl,by simp[aq]⟩
 |rv::l,vs,s,s1,fi,r,h=>by
  obtain⟨v,s2,h1,h2⟩:=M.aI (show((qy P t rv).bind fun v=>(jP P t l).bind fun vs=>M.pure<|v::vs) s= .ok vs s1 from h);obtain⟨us,s3,h3,h4⟩:=M.aI h2;obtain⟨rfl,rfl⟩:=aM h4;obtain⟨a1,a2,a3,u,a4,a5⟩:=J4 ht fi r h1;obtain⟨b1,b2,Ai,b3,b4⟩:=sM ht a3 (by rw[a1];exact r) h3;refine⟨b1.trans a1,b2.trans a2,u::Ai,?_,?_⟩
  ·rw[List.mapM_cons];simp only[Sem.run_bind,a4,Result.andThen_ok,b3,Sem.run_pure]
  ·simp only[aq];exact⟨u,Ai,rfl,a5,b4⟩
theorem sO{fr:Frame}{cs:List Frame}:∀{l:List Nat} {ds:List Deferred} {s s1:AS} {w:World} {u:Unit},aO s->Rel B ρ s.h w->om ρ l ds->hJ l s= .ok u s1->
 s1.nx=s.nx/\aO s1/\∃w',Rel B ρ s1.h w'/\bh B w w'/\∀(fr:Frame) (cs:List Frame),fr.mode≠ .run->fr.defers=ds->Steps P (lone fr cs w) (lone {fr with defers:=[]} cs w')
 |[],ds,s,s1,w,u,fi,r,hd,h=>by obtain⟨_,rfl⟩:=aM (show M.pure () s= .ok u s1 from h);have Af:ds=[]:=hd;subst Af;exact⟨rfl,fi,w,r,bh.refl _ _,fun fr cs _ e=>by rw[←e];exact Steps.refl _ _⟩
 |d::l,ds,s,s1,w,u,fi,r,hd,h=>by
  obtain⟨b,N,Q1,rfl,hn,Q2⟩:=hd;obtain⟨o,s2,h1,h2⟩:=M.aI (show((aY d).bind fun o=>match o with| .defs=>(aZ d none).bind fun _=>hJ l|_=>fail) s= .ok u s1 from h);obtain⟨hx,fA,hh,bj⟩:=dW h1;have bR:=(Sx.aY d).bg fi h1;have aS:d<top:=Nat.lt_of_lt_of_le hx fi.nx;obtain⟨o',hb,hO,hB⟩:=r.block aS fA hn;cases o with
  |defs=>
   obtain⟨u2,s3,h3,h4⟩:=M.aI h2;have eN:=(Sx.aZ d none).bg bR h3;obtain⟨_,_,_,i1,i2⟩:=gj h3;have xm:o'= .deferred (some []):=hO;subst xm;obtain⟨g3,g4⟩:=qi (o':=.deferred none) hb;obtain⟨k1,_⟩:=r.HB aS fA rfl rfl hn g3;obtain⟨e1,e2,w',e3,e4,e5⟩:=sO (fr:=fr) (cs:=cs) eN (by rw[i1,hh];exact k1) Q2 h4;refine⟨by rw[e1,i2,bj],e2,w',e3,(g3.below<|hB rfl).trans e4,fun fr cs hm Q3=>?_⟩;have O8:(Instr.takeDeferred b).run P w= .ok [] {w with heap:=w.heap.setIfInBounds b<|.deferred none}:=by simp[Instr.takeDeferred,getObj,setObj,Sem.run,hb]
   have hs:=step_collected (P:=P) (cs:=cs) hm Q3 rfl O8;exact .head hs<|e5 {fr with defers:=[]++Q1} cs hm rfl
  |_=>cases h2
end
end Go.Rn
namespace Go.Rn
open Go.RowKit
section
variable {P:Program} {B:aC} {ρ:ah} {w:World} {s s1:AS} {Sy:aD}
theorem uX{args:List AV}{vs:Array Value}(hv:aq ρ args vs.toList)(n:Nat)(hn:max n args.length<=top):TR ρ (max n args.length) (bt args)<|vs++Array.replicate (n - vs.size) undef:=by
 have hlen:=hv.length;simp only[Array.length_toList] at hlen;refine⟨by simp;omega,fun i x hx=>?_⟩;unfold bt at hx;rw[Tr.nK _ _ _ _<|by omega] at hx;by_cases h:i<args.length
 ·rw[if_pos (by omega),Nat.sub_zero] at hx;obtain⟨v,h1,h2⟩:=hv.get i x hx;rw[Array.getD_eq_getD_getElem?,Array.getElem?_append_left<|by omega];rw[Array.getElem?_toList] at h1;rw[h1];exact h2
 ·rw[if_neg (by omega),Tr.get_nil] at hx;cases hx
def ze:List AV->AV
 |[v]=>v
 |l=>.tuple l
def eS:List Value->Value
 |[v]=>v
 |l=>.tuple l.toArray
theorem vg:∀{rs:List AV} {us:List Value},aq ρ rs us->VR ρ (ze rs) (eS us)
 |[],us,h=>by simp only[aq] at h;subst h;simp only[ze,eS,VR,aq];exact⟨_,rfl,rfl⟩
 |[v],us,h=>by simp only[aq] at h;obtain⟨u,Ai,rfl,g1,rfl⟩:=h;exact g1
 |v::v2::rs,us,h=>by simp only[aq] at h;obtain⟨u,Ai,rfl,g1,u2,Q4,rfl,g3,g4⟩:=h;simp only[ze,eS,VR,aq];exact⟨_,rfl,u,_,rfl,g1,u2,Q4,rfl,g3,g4⟩
theorem u0{rs:List ResultVar}{fr:AF}{j:Option Code}{x:AV}(h:finish P rs fr j s= .ok x s1):
 (j=none\/j=some .ret)/\∃u s4 vs,hJ fr.defers s= .ok u s4/\jP P fr.tmps rs s4= .ok vs s1/\x=ze vs:=by
 unfold finish at h;obtain⟨u,s3,h5,h6⟩:=M.aI h;have xd:s3=s/\(j=none\/j=some .ret):=by
  cases j with
  |none=>exact⟨(aM (show M.pure () s= .ok u s3 from h5)).2,.inl rfl⟩
  |some c=>cases c<;>first|exact⟨(aM (show M.pure () s= .ok u s3 from h5)).2,.inr rfl⟩|cases h5
 obtain⟨hs,hj⟩:=xd;clear h5 h;subst hs;obtain⟨u2,s4,h7,h8⟩:=M.aI h6;obtain⟨vs,s5,h9,dF⟩:=M.aI h8;refine⟨hj,u2,s4,vs,h7,?_⟩;cases vs with
 |nil=>obtain⟨rfl,rfl⟩:=aM (show M.pure (.tuple []) s5= .ok x s1 from dF);exact⟨h9,rfl⟩
 |cons v rs=>
  cases rs with
  |nil=>obtain⟨rfl,rfl⟩:=aM (show M.pure v s5= .ok x s1 from dF);exact⟨h9,rfl⟩
  |cons v2 rs=>obtain⟨rfl,rfl⟩:=aM (show M.pure (.tuple<|v::v2::rs) s5= .ok x s1 from dF);exact⟨h9,rfl⟩
theorem MD(bX:P.follows .mixedOrders=true)(hc:dm P B Sy)(hl:∀t a,Sx<|Sy t a){f:FuncId}{fn:Func}{body:Code}{args:List AV}{vs:Array Value}{x:AV}(cw:P.funcs[f]? =some fn)(cV:fn.body=some body)(dX:(fn.name == "runtime.NumGoroutine")=false)(cC:dx body)(fi:aO s)(r:Rel B ρ s.h w)(hg:dN ρ)(hf:bH s.nx s1.nx ρ)(h:tM P f fn.ntmps fn.results.toList body Sy args s= .ok x s1)(hv:aq ρ args vs.toList):fm P ((callFunc f vs).run P w)<|fM B ρ s s1 w x:=by
 have bd:(callFunc f vs).run P w= .ok (.enter f vs) w:=by
  have l4:(program).run P w= .ok P w:=rfl;have hn:fn.name≠ "runtime.NumGoroutine" :=by simpa using dX
  simp only[callFunc,Sem.run_bind,l4,Result.andThen_ok,cw,dX,cV];simp
 rw[bd];intro cs;unfold tM at h;obtain⟨h1,h2⟩:=bM h;have ir:=aL.1 h1;obtain⟨y,s2,h3,h4⟩:=M.aI h2;cases y with
 |go fr=>cases h4
 |leave fr j=>
  have mq:finish P fn.results.toList fr j s2= .ok x s1:=h4;let b:Frame:={(default:Frame) with fn:=f,kind:=.normal,roundOf:=none};let a:Act:={tmps:=vs++Array.replicate (fn.ntmps - vs.size) undef,defers:=[]};have jY:Frame.enter P f vs .normal=b.atR a [.code body]:=by simp[Frame.enter,Frame.atR,cw,cV,b,a]
  have aW:Fr ρ ⟨f,bt args,max fn.ntmps args.length,[.code body],[],none⟩ b a:=⟨rfl,rfl,trivial,rfl,.cons cC .nil⟩;have aB:At B ρ s (max fn.ntmps args.length) (bt args) w a:=⟨uX hv _ ir,r,hg,ir,fi⟩;have fD:=(Sx.iL P hl depth 2 ⟨f,bt args,max fn.ntmps args.length,[.code body],[],none⟩).le fi h3;have bR:=(Sx.iL P hl depth 2 ⟨f,bt args,max fn.ntmps args.length,[.code body],[],none⟩).bg fi h3;obtain⟨hj,u2,s4,rs,h7,h9,hx⟩:=u0 mq;have PZ:∀{l:List Nat} {s s1:AS} {u:Unit},hJ l s= .ok u s1->s1.nx=s.nx:=by
   intro l;induction l with
   |nil=>intro s s1 u h;exact congrArg AS.nx (aM (show M.pure () s= .ok u s1 from h)).2
   |cons d l ih=>
    intro s s1 u h;obtain⟨o,s2,q1,q2⟩:=M.aI (show((aY d).bind fun o=>match o with| .defs=>(aZ d none).bind fun _=>hJ l|_=>fail) s= .ok u s1 from h);cases o with
    |defs=>obtain⟨u2,s3,q3,q4⟩:=M.aI q2;rw[ih q4,(gj q3).2.2.2.2,(dW q1).2.2.2]
    |_=>cases q2
  have P0:∀{l:List ResultVar} {t:Tr AV} {vs:List AV} {s s1:AS},aO s->jP P t l s= .ok vs s1->s.nx<=s1.nx:=by intro l t vs s s1 fi h;exact(Sx.jP P t l).le fi h
  have n4:=PZ h7;have gf:aO s4:=(Sx.hJ _).bg bR h7;have n5:=P0 gf h9;obtain⟨σ,a',w',e1,e2,e3,e4,⟨e5,sj,P1⟩,e6,e7,e8⟩:=Be (b:=b) (cs:=cs) bX hc hl depth 2 aW aB (hf.sub (Nat.le_refl _)<|by omega) h3;have hH:Leaves j fr.todo:=e7;obtain⟨d1,d2,w2,d3,d4,d5⟩:=sO (P:=P) (fr:=b) (cs:=cs) bR e2.rel e3 h7;obtain⟨f1,f2,us,f3,f4⟩:=sM (P:=P) (w:=w2) e2.tr gf d3 h9;have nh:Steps P (lone (b.atR a' fr.todo) cs w')<|lone {b.atR a' fr.todo with mode:=.returning} cs w':=by
   rcases hj with rfl|rfl
   ·have e:fr.todo=[]:=hH;rw[e];exact .one<|stepR_end rfl
   ·obtain⟨k,e⟩:=hH;rw[e];exact .one<|stepR_ret rfl
  have j9:=d5 {b.atR a' fr.todo with mode:=.returning} cs (by simp) rfl;have iQ:(results fn a'.tmps).run P w2= .ok (eS us) w2:=by
   unfold results;rw[Array.mapM_eq_mapM_toList];simp only[Sem.run_bind,map_eq_pure_bind,Sem.run_pure];refine Eq.trans (congrArg (fun r:Result (List Value)=>(r.andThen fun a w'=>Result.ok a.toArray w').andThen fun a w'=>Result.ok (if h:a.size=1 then a[0] else Value.tuple a) w') f3) ?_;have:∀l:List Value,(Result.ok (if h:l.toArray.size=1 then l.toArray[0] else Value.tuple l.toArray) w2:Result Value)= .ok (eS l) w2:=by
    intro l
    match l with
    |[]=>rfl
    |[v]=>rfl
    |v::v2::l=>simp[eS]
   exact this us
  refine⟨.returned<|eS us,w2,{b.atR a' fr.todo with mode:=.returning,defers:=[]},⟨_,rfl,?_⟩,?_,rfl,?_⟩
  ·exact⟨σ,by rw[show s1.nx=s2.nx by rw[f2,d1]];exact e1,by rw[hx];exact vg f4,by rw[f1];exact d3,e4.trans d4⟩
  ·rw[jY];exact Steps.trans e8<|Steps.trans nh j9
  ·exact⟨rfl,rfl,rfl,fn,cw,iQ⟩
structure dp (P:Program):Prop where
 mixed:P.follows .mixedOrders=true
 code:∀(f:FuncId) (fn:Func) (body:Code),P.funcs[f]? =some fn->fn.body=some body->dx body
def Cd(P:Program)(B:aC)(cx:FuncId->Nat):Prop:=∀(n:Nat) (f:FuncId),(cx f=1\/cx f=2\/cx f=3)->dm P B (nf P cx n)->∀(args:List AV) (x:AV) (s s1:AS) (ρ:ah) (w:World) (vs:Array Value),aO s->Rel B ρ s.h w->dN ρ->bH s.nx s1.nx ρ->(pN P cx f).val (nf P cx n) args s= .ok x s1->aq ρ args vs.toList->fm P ((callFunc f vs).run P w) (fM B ρ s s1 w x)
theorem Gt(hP:dp P){cx:FuncId->Nat}(hw:Cd P B cx):∀(n:Nat),dm P B (nf P cx n)
 |0=>⟨(fun f args x s s1 ρ w vs _ _ _ _ h _=>by cases h),(fun l b N args x s s1 ρ w vs _ _ _ _ h _ _=>by cases h),(fun n o k x s s1 ρ w _ _ h=>by cases h)⟩
 |n+1=>by
  have ih:=Gt hP hw n;refine⟨fun f args x s s1 ρ w vs fi r hg hf h hv=>?_,fun l b N args x s s1 ρ w vs fi r hg hf h hv hl=>LK hP.mixed ih (uZ P cx n) fi r hg hf h hv hl,fun n o k x s s1 ρ w _ _ h=>by cases h⟩;have h':(pN P cx f).val (nf P cx n) args s= .ok x s1:=h;by_cases q:cx f=1\/cx f=2\/cx f=3
  ·exact hw n f q ih args x s s1 ρ w vs fi r hg hf h' hv
  ·unfold pN at h';split at h'
   ·rename_i e;exact absurd (.inr<|.inl e) q
   ·rename_i e;exact absurd (.inr<|.inr e) q
   ·cases e1:P.funcs[f]? with
    |none=>rw[e1] at h';cases h'
    |some fn=>
     rw[e1] at h';cases e2:fn.body with
     |none=>simp only[e2] at h';cases h'
     |some body=>
      simp only[e2] at h';cases e3:(fn.name == "runtime.NumGoroutine") with
      |true=>simp only[e3] at h';cases h'
      |false=>
       simp only[e3] at h';cases e4:Nat.beq (cx f) 1 with
       |true=>exact absurd (.inl<|cj.1 e4) q
       |false=>simp only[e4] at h';exact MD hP.mixed ih (uZ P cx n) e1 e2 e3 (hP.code f fn body e1 e2) fi r hg hf h' hv
end
end Go.Rn
namespace Go.Rn
open Go.RowKit
theorem LM{P:Program}{B:aC}{ρ:ah}{w:World}{s s1:AS}{args:List AV}{vs:Array Value}{x:AV}(fi:aO s)(r:Rel B ρ s.h w)(hf:bH s.nx s1.nx ρ)(hv:aq ρ args vs.toList)(h:o5 args s= .ok x s1):
 dT P B ρ s s1 w x (Extern.MapsClone.clone vs):=by
 unfold o5 at h;split at h
 ·rename_i t m;obtain⟨vs⟩:=vs;simp only[aq,VR] at hv;obtain⟨v,l,rfl,⟨y,rfl,b,N,hm,rfl⟩,rfl⟩:=hv;obtain⟨ob,s2,h1,h2⟩:=M.aI h;obtain⟨hx,hg,hh,bj⟩:=dW h1;have ht:m<top:=Nat.lt_of_lt_of_le hx fi.nx;obtain⟨o',hb,hO,hB⟩:=r.block ht hg hm;have fin:∀(xu:U) (l:Array MapEntry) (aK:Nat),xu.own=true->w.heap[b]? =some (.map l aK)->(∀σ N',ρ.le σ->OR σ N' xu (.map l aK))->
   ((cN xu).bind fun n=>M.pure<|.iface t<|.map<|some n) s2= .ok x s1->dT P B ρ s s1 w x (Extern.MapsClone.clone ⟨[.iface t<|.map<|some b]⟩):=by
   intro xu l aK hp eD xm h3;obtain⟨n,s3,h4,h5⟩:=M.aI h3;obtain⟨rfl,rfl⟩:=aM h5;obtain⟨xe,rfl,rfl⟩:=jQ h4;have dR:ρ s2.nx=none:=hf s2.nx (by omega) (Nat.lt_succ_self _) (by omega);refine⟨dM ρ s2.nx (w.heap.size,1),{w with heap:=w.heap.push<|.map l aK},.iface t<|.map<|some w.heap.size,?_,?_,?_,?_,(dj.alloc w _).below r.size⟩
   ·rw[←bj];exact Ext.lq dR
   ·have e:Extern.MapsClone.clone ⟨[.iface t<|.map<|some b]⟩=(getObj b >>= fun o=>match o with
     | .map entries aK=>(newObj (.map entries aK) >>= fun n=>pure<|.iface t<|.map<|some n)
     |_=>stuck "maps.clone: a map expected"):=rfl
    rw[e];simp[MapKept.run_getObj_map eD,newObj,Sem.run]
   ·simp only[VR];exact⟨_,rfl,_,_,eQ _ _ _,rfl⟩
   ·show Rel B _ (s2.h.put s2.nx<|some xu) _;rw[hh];exact r.new xe dR hp<|xm _ _<|kJ dR
  cases ob with
  |map es aK=>obtain⟨l,rfl,hc,he⟩:=hO;exact fin (.map es aK) l aK rfl hb (fun σ N' hle=>⟨l,rfl,hc,he.mono hle⟩) h2
  |cK es=>obtain⟨l,aK,rfl,ka,nw,he⟩:=hO;exact fin (.cK es) l aK rfl hb (fun σ N' hle=>⟨l,aK,rfl,ka,nw,he.mono hle⟩) h2
  |_=>cases h2
 ·cases h
end Go.Rn
namespace Go.Rn
open Go.RowKit
def Gu(W:World):ah:=fun k=>if k<fw then some (k,match W.heap[k]? with|some (.cells c _ _)=>c.size|_=>0) else none
end Go.Rn
namespace Go.Rn
open Go.RowKit
theorem FZ{ρ:ah}{e:MapEntry}:∀{left:List<|AV×AV} {l:List MapEntry},cq ρ left l->e∈l->
 ∃x r l',(x,r)∈n7 left/\VR ρ x.1 e.key/\VR ρ x.2 e.val/\cq ρ r l'/\l.Perm (e::l')
 |[],l,h,he=>by simp only[cq] at h;subst h;cases he
 |y::ys,l,h,he=>by
  simp only[cq] at h;obtain⟨e0,es,rfl,h1,h2,h3⟩:=h;rcases List.mem_cons.1 he with rfl|he
  ·exact⟨y,ys,es,by simp[n7],h1,h2,h3,List.Perm.refl _⟩
  ·obtain⟨x,r,l',k1,k2,k3,k4,k5⟩:=FZ h3 he;refine⟨x,y::r,e0::l',?_,k2,k3,?_,?_⟩
   ·simp only[n7,List.mem_cons,List.mem_map];exact .inr ⟨(x,r),k1,rfl⟩
   ·simp only[cq];exact⟨e0,l',rfl,h1,h2,k4⟩
   ·exact(List.Perm.cons e0 k5).trans<|List.Perm.swap e e0 l'
theorem cq.Np{ρ:ah}{left:List<|AV×AV}(h:cq ρ left []):left=[]:=by
 cases left with
 |nil=>rfl
 |cons x xs=>simp only[cq] at h;obtain⟨e,es,h,_⟩:=h;cases h
section
variable {P:Program} {B:aC} {ρ:ah} {w w':World} {h:Tr U} {n m:Nat} {es left eJ:List<|AV×AV} {ex:Bool} {cur eL:Option<|AV×AV} {b N:Nat}
theorem Ft{w1:World}{o:Obj}(hw:w1=w\/w1=w.drew):nX b w<|ChangeMaps.setBlock w1 b o:=by
 have h1:(ChangeMaps.setBlock w1 b o).heap=w.heap.setIfInBounds b o:=by rcases hw with rfl|rfl<;>rfl
 refine⟨?_,?_,?_,by rw[h1];simp,fun k hk=>?_⟩
 ·rcases hw with rfl|rfl<;>rfl
 ·rcases hw with rfl|rfl<;>rfl
 ·rcases hw with rfl|rfl<;>rfl
 ·rw[h1,Array.getElem?_setIfInBounds_ne<|by omega]
theorem hZ.next(ty:TypeId)(u:hZ ρ w n m es ex left cur):∃b N,ρ n=some (b,N)/\
 ((left=[]/\(Instr.next (.pointer<|some ⟨b,0,none⟩) false ty).run P w= .ok (.tuple #[.bool false]) w)\/
 ∃x r v1 v2 w',(x,r)∈n7 left/\VR ρ x.1 v1/\VR ρ x.2 v2/\(Instr.next (.pointer<|some ⟨b,0,none⟩) false ty).run P w= .ok (.tuple #[.bool true,v1,v2]) w'/\nX b w w'/\(∃bm M c sn,ρ m=some (bm,M)/\w'.heap[b]? =some (.mapIter (some bm) c sn c))/\hZ ρ w' n m es ex r (some x)):=by
 obtain⟨b,N,bm,M,l,aK,seen,h1,h2,h3,h4,h5,h6,h7,h8,h9⟩:=u;refine⟨b,N,h1,?_⟩;have uF:(leftOf l seen).toList=l.toList.filter fun e=> !seen.contains e.born:=by simp[leftOf]
 obtain⟨l',hp,hq⟩:=h8;rcases run_next_at (P:=P) w ty b bm aK aK seen l aK h3 h4 h5.2 (Nat.le_refl _) with⟨k1,k2⟩|⟨e,he,w1,jc,k2⟩
 ·refine .inl ⟨?_,k2⟩;have:(leftOf l seen).toList=[]:=by apply List.eq_nil_of_length_eq_zero;simpa using k1
  rw[uF] at this;rw[this] at hp;have iC:=hp.symm.eq_nil;subst iC;exact hq.Np
 ·refine .inr ?_;rw[uF] at he;have xj:e∈l':=hp.mem_iff.1 he;obtain⟨x,r,uH,p1,p2,p3,p4,p5⟩:=FZ hq xj;have bO:bm≠b:=by intro q;subst q;rw[h3] at h4;cases h4
  have eD:(ChangeMaps.setBlock w1 b<|.mapIter (some bm) aK (seen.push e.born) aK).heap[b]? =some (.mapIter (some bm) aK (seen.push e.born) aK):=by
   have aS:b<w.heap.size:=ff h3;have:(ChangeMaps.setBlock w1 b<|.mapIter (some bm) aK (seen.push e.born) aK).heap=w.heap.setIfInBounds b (.mapIter (some bm) aK (seen.push e.born) aK):=by rcases jc with rfl|rfl<;>rfl
   rw[this,Array.getElem?_setIfInBounds_self_of_lt aS]
  refine⟨x,r,e.key,e.val,_,p1,p2,p3,k2,Ft jc,⟨bm,M,aK,seen.push e.born,h2,eD⟩,?_⟩;have ma:e∈l.toList:=(List.mem_filter.1 he).1;have oN:((e::uH).map (·.born)).Nodup:=by have a:((l.toList.filter fun e=> !seen.contains e.born).map (·.born)).Nodup:=(List.filter_sublist.map _).nodup h5.1;exact((hp.trans p5).map _).nodup_iff.1 a
  rw[List.map_cons,List.nodup_cons] at oN;refine⟨b,N,bm,M,l,aK,seen.push e.born,h1,h2,eD,((Ft jc).block bm bO).trans h4,h5,h6,h7,⟨uH,?_,p4⟩,⟨e,ma,by simp,p2,p3⟩⟩;have e1:(l.toList.filter fun x=> !(seen.push e.born).contains x.born)=(l.toList.filter fun x=> !seen.contains x.born).filter fun x=> !(x.born == e.born):=by rw[List.filter_filter];congr 1;funext x;simp only[Array.contains_push];rw[Bool.not_or,Bool.and_comm]
  have e2:(e::uH).filter (fun x=> !(x.born == e.born))=uH:=by
   rw[List.filter_cons];simp only[beq_self_eq_true,Bool.not_true,Bool.false_eq_true,if_false];refine List.filter_eq_self.2 fun x hx=>?_;have:¬x.born=e.born:=by intro q;exact oN.1 (by rw[←q];exact List.mem_map_of_mem hx)
   simp[this]
  rw[e1];have:=(hp.trans p5).filter fun x=> !(x.born == e.born);rw[e2] at this;exact this
theorem Rel.Oc(r:Rel B ρ h w)(ht:n<top)(hg:h.get n=some (.iter m es ex left cur))(hr:ρ n=some (b,N))(hw:nX b w w')(hb:∃bm M c sn,ρ m=some (bm,M)/\w'.heap[b]? =some (.mapIter (some bm) c sn c))(u:hZ ρ w' n m es ex eJ eL):Rel B ρ (h.put n<|some<|.iter m es ex eJ eL) w':=by
 obtain⟨_,_,_,hB⟩:=r.block ht hg hr;obtain⟨jJ,dy,_⟩:=r.iter n m es ex left cur ht hg;have lp:m≠n:=by intro e;subst e;rw[hg] at dy;cases dy
 have g:∀k,k<top->(h.put n<|some<|.iter m es ex eJ eL).get k=if k=n then some (.iter m es ex eJ eL) else h.get k:=fun k hk=>Tr.cJ _ _ _ _ ht hk
 have live:∀j,j<top->∀x,(if j=n then some (U.iter m es ex eJ eL) else h.get j)=some x->∃y,h.get j=some y/\(x.bN=false->y.bN=false):=by
  intro j _ x hx;by_cases e:j=n
  ·subst e;exact⟨_,hg,fun _=>rfl⟩
  ·rw[if_neg e] at hx;exact⟨x,hx,id⟩
 refine⟨?_,?_,?_,by rw[hw.size];exact r.size,?_,r.fz.of (ah.le_refl _) (fun b1 _ hn=>hw.block b1 fun e=>hn n _ N ht hg rfl (by rw[e];exact hr)) (fun b1 _ hn=>hn.sub fun k q hk hq da=>by
  rw[g k hk] at hq;obtain⟨y,e1,e2⟩:=live k hk q hq;exact⟨y,e1,e2 da⟩),r.tk.of (ah.le_refl _) (fun k q hk hq kT=>by
  rw[g k hk] at hq;by_cases e:k=n
  ·rw[if_pos e] at hq;cases hq;cases kT
  ·rw[if_neg e] at hq;exact hq) (by rw[hw.size];exact Nat.le_refl _) (fun b1 _ hn=>hw.block b1 fun e=>hn n _ N ht hg rfl (by rw[e];exact hr)) (fun b1 _ hn=>hn.sub fun k q hk hq da=>by
  rw[g k hk] at hq;obtain⟨y,e1,e2⟩:=live k hk q hq;exact⟨y,e1,e2 da⟩) fun _ _ _ _ _ e=>e⟩
 ·intro k q hk hq;rw[g k hk] at hq;by_cases e:k=n
  ·subst e;rw[if_pos rfl] at hq;cases hq;obtain⟨bm,M,c,sn,q1,q2⟩:=hb;exact⟨b,N,_,hr,q2,⟨bm,M,c,sn,q1,rfl⟩,fun _=>hB rfl⟩
  ·rw[if_neg e] at hq;obtain⟨b1,N1,o1,h1,h2,h3,h4⟩:=r.is k q hk hq;refine⟨b1,N1,o1,h1,(hw.block b1 fun e2=>?_).trans h2,h3,h4⟩;subst e2;exact e<|r.one k n q _ b1 N1 N hk ht hq hg (.inr rfl) h1 hr
 ·intro k j q q' b1 N1 M1 hk hj hq cZ b8 h1 h2;rw[g k hk] at hq;rw[g j hj] at cZ;obtain⟨y,hy,ln⟩:=live k hk q hq;obtain⟨z,hz,rP⟩:=live j hj q' cZ;exact r.one k j y z b1 N1 M1 hk hj hy hz (b8.imp ln rP) h1 h2
 ·intro i m' dD eW l' c' hi hq;rw[g i hi] at hq;by_cases e:i=n
  ·subst e;rw[if_pos rfl] at hq;cases hq;exact⟨jJ,by rw[g m jJ,if_neg lp];exact dy,u⟩
  ·rw[if_neg e] at hq;obtain⟨cO,hl,u'⟩:=r.iter i m' dD eW l' c' hi hq;have zI:m'≠n:=by intro e2;subst e2;rw[hg] at hl;cases hl
   refine⟨cO,by rw[g m' cO,if_neg zI];exact hl,u'.l9 hw.block (fun M e2=>e ?_) fun M e2=>zI ?_⟩
   ·exact r.one i n _ _ b M N hi ht hq hg (.inr rfl) e2 hr
   ·exact r.one m' n _ _ b M N cO ht hl hg (.inr rfl) e2 hr
 ·intro i j m' pR pS py pG pT Ae zr zE hi hj q1 q2;rw[g i hi] at q1;rw[g j hj] at q2;have I3:∀k,k<top->∀pR pS py pG,(if k=n then some (U.iter m es ex eJ eL) else h.get k)=some (.iter m' pR pS py pG)->∃pT Ae zr zE,h.get k=some (.iter m' pT Ae zr zE):=by
   intro k _ pR pS py pG q;by_cases e:k=n
   ·subst e;rw[if_pos rfl] at q;cases q;exact⟨_,_,_,_,hg⟩
   ·rw[if_neg e] at q;exact⟨_,_,_,_,q⟩
  obtain⟨_,_,_,_,a1⟩:=I3 i hi _ _ _ _ q1;obtain⟨_,_,_,_,a2⟩:=I3 j hj _ _ _ _ q2;exact r.lone i j m' _ _ _ _ _ _ _ _ hi hj a1 a2
theorem Rel.ME{o:U}{o':Obj}(r:Rel B ρ h w)(ht:m<top)(hg:h.get m=some .ep)(hr:ρ m=some (b,N))(hb:w.heap[b]? =some o')(hO:OR ρ N o o')(xc:o.own=true)(gV:∀i es ex left cur,i<top->h.get i≠some (.iter m es ex left cur)):Rel B ρ (h.put m<|some o) w:=by
 obtain⟨ho,wm⟩:=U.qm xc;obtain⟨_,_,_,hB⟩:=r.block ht hg hr;have g:∀k,k<top->(h.put m<|some o).get k=if k=m then some o else h.get k:=fun k hk=>Tr.cJ _ _ _ _ ht hk
 have live:∀j,j<top->∀x,(if j=m then some o else h.get j)=some x->∃y,h.get j=some y/\(x.bN=false->y.bN=false):=by
  intro j _ x hx;by_cases e:j=m
  ·subst e;exact⟨_,hg,fun _=>rfl⟩
  ·rw[if_neg e] at hx;exact⟨x,hx,id⟩
 refine⟨?_,?_,?_,r.size,?_,r.fz.of (ah.le_refl _) (fun _ _ _=>rfl) (fun b1 _ hn=>hn.sub fun k q hk hq da=>by
  rw[g k hk] at hq;obtain⟨y,e1,e2⟩:=live k hk q hq;exact⟨y,e1,e2 da⟩),r.tk.of (ah.le_refl _) (fun k q hk hq kT=>by
  rw[g k hk] at hq;by_cases e:k=m
  ·rw[if_pos e] at hq;cases hq;rw[wm] at kT;cases kT
  ·rw[if_neg e] at hq;exact hq) (Nat.le_refl _) (fun _ _ _=>rfl) (fun b1 _ hn=>hn.sub fun k q hk hq da=>by
  rw[g k hk] at hq;obtain⟨y,e1,e2⟩:=live k hk q hq;exact⟨y,e1,e2 da⟩) fun _ _ _ _ _ e=>e⟩
 ·intro k q hk hq;rw[g k hk] at hq;by_cases e:k=m
  ·subst e;rw[if_pos rfl] at hq;cases hq;exact⟨b,N,_,hr,hb,hO,fun _=>hB rfl⟩
  ·rw[if_neg e] at hq;exact r.is k q hk hq
 ·intro k j q q' b1 N1 M1 hk hj hq cZ b8 h1 h2;rw[g k hk] at hq;rw[g j hj] at cZ;obtain⟨y,hy,ln⟩:=live k hk q hq;obtain⟨z,hz,rP⟩:=live j hj q' cZ;exact r.one k j y z b1 N1 M1 hk hj hy hz (b8.imp ln rP) h1 h2
 ·intro i m' dD eW l' c' hi hq;rw[g i hi] at hq;by_cases e:i=m
  ·subst e;rw[if_pos rfl] at hq;cases hq;simp[U.plain] at ho
  ·rw[if_neg e] at hq;obtain⟨cO,hl,u'⟩:=r.iter i m' dD eW l' c' hi hq;have zI:m'≠m:=by intro e2;subst e2;exact gV i _ _ _ _ hi hq
   exact⟨cO,by rw[g m' cO,if_neg zI];exact hl,u'⟩
 ·intro i j m' pR pS py pG pT Ae zr zE hi hj q1 q2;rw[g i hi] at q1;rw[g j hj] at q2;by_cases e:i=m
  ·rw[if_pos e] at q1;cases q1;simp[U.plain] at ho
  ·rw[if_neg e] at q1;by_cases e2:j=m
   ·rw[if_pos e2] at q2;cases q2;simp[U.plain] at ho
   ·rw[if_neg e2] at q2;exact r.lone i j m' _ _ _ _ _ _ _ _ hi hj q1 q2
theorem Rel.P2(r:Rel B ρ h w)(ht:n<top)(hg:h.get n=some (.iter m es ex left cur)):Rel B ρ ((h.put n none).put m<|some<|mapOf ex es) w:=by
 obtain⟨jJ,dy,b,N,bm,M,l,aK,seen,h1,h2,h3,h4,h5,h6,h7,h8,h9⟩:=r.iter n m es ex left cur ht hg;have lp:m≠n:=by intro e;subst e;rw[hg] at dy;cases dy
 have g:∀k,k<top->(h.put n none).get k=if k=n then none else h.get k:=fun k hk=>Tr.cJ _ _ _ _ ht hk
 refine(r.drop ht (by rw[hg];simp)).ME jJ (by rw[g m jJ,if_neg lp];exact dy) h2 h4 ?_ (by cases ex<;>rfl) ?_
 ·cases ex with
  |true=>obtain⟨q1,q2⟩:=h6 rfl;subst q1;exact⟨l,rfl,rfl,q2⟩
  |false=>obtain⟨q1,q2⟩:=h7 rfl;exact⟨l,aK,rfl,q1,h5,q2⟩
 ·intro i dD eW eJ eL hi hq;rw[g i hi] at hq;by_cases e:i=n
  ·rw[if_pos e] at hq;cases hq
  ·rw[if_neg e] at hq;exact e<|r.lone i n m _ _ _ _ _ _ _ _ hi ht hq hg
end
end Go.Rn
namespace Go.Rn
open Go.RowKit
section
variable {P:Program} {B:aC} {ρ:ah} {w w1:World} {s s1 s2:AS} {Sy:aD} {b:Frame} {a:Act} {cs:List Frame}
theorem put_defers(a:Act)(dst:Option Tmp)(v:Value):(a.put dst v).defers=a.defers:=by cases dst<;>rfl
theorem E5{fr:AF}{id:Nat}{ops:Array Oper}{o:Oper}{rest:List Oper}{k:List Item}{t1 t2:Tr AV}{v:Value}(hc:dm P B Sy)(hl:∀t a,Sx<|Sy t a)(aW:Fr ρ fr b a)(kR:fr.todo= .code (.region id ops false)::k)(iu:ops.toList=o::rest)(Aj:o.guard=none)(hd:∀c,o.op≠ .defer c)(oj:(execOp a.eval o).run P w= .ok (.value v) w1)(wD:bh B w w1)(aB:At B ρ s1 fr.nt t1 w1<|a.put o.dst v)(bj:s1.nx=s.nx)(hf:bH s1.nx s2.nx ρ)(h:fj P Sy fr.nt ops rest t1 s1= .ok t2 s2):
 gX P B ρ s s2 w fr b cs (lone (b.atR a fr.todo) cs w) (.go {fr with tmps:=t2,todo:=k}):=by
 have hw:Region.wanted o (yielded ops a.tmps)=true:=by unfold Region.wanted;rw[Aj]
 have ho:ops[0]? =some o:=by rw[←Array.getElem?_toList,iu];rfl
 have gb:ops.size=rest.length+1:=by rw[←Array.length_toList,iu];rfl
 have hk:eE k:=by have:=aW.ok;rw[kR] at this;exact this.tail
 obtain⟨v',w',⟨rfl,rfl⟩,st⟩:=Fo (R:=fun v' w'=>v'=v/\w'=w1) ho hw hd (by unfold fm;rw[oj];exact⟨rfl,rfl⟩) b k cs<|List.range' 1 rest.length;obtain⟨σ,a',w2,e1,e2,e3,e4,e5⟩:=BB hc hl b k cs rest.length 1 rest rfl (by rw[iu];rfl) aB hf h;refine⟨σ,a',w2,by rw[←bj];exact e1,e2,?_,wD.trans e4,⟨rfl,rfl,rfl⟩,hk,trivial,?_⟩
 ·rw[e3,put_defers];exact aW.defs.mono e1.le
 ·rw[kR];refine .head stepR_region ?_;rw[List.range_eq_range',gb,List.range'_succ];exact Steps.trans st e5
theorem Kp{fr:AF}{it:Operand}{n:Nat}{ob:U}(h:mM fr it s= .ok (n,ob) s1):ak fr.tmps it=some (.ptr<|some (n,0))/\aY n s= .ok ob s1:=by
 unfold mM at h;obtain⟨x,s2,h1,h2⟩:=M.aI h;obtain⟨h3,rfl⟩:=de h1;split at h2
 ·obtain⟨y,s3,h4,h5⟩:=M.aI h2;obtain⟨h6,rfl⟩:=aM h5;cases h6;exact⟨h3,h4⟩
 ·cases h2
theorem J5{fr:AF}{it:Operand}{o:Oper}{ops:Array Oper}{rest:List Oper}{k:List Item}(h:qz fr=some (it,o,ops,rest,k)):
 ∃id,fr.todo= .code (.region id ops false)::k/\ops.toList=o::rest/\o.guard=none/\o.op= .next it false:=by
 unfold qz at h;split at h
 ·rename_i id SO k' kR;split at h
  ·rename_i o' SK iu;split at h
   ·rename_i S0 hg ho;cases h;exact⟨id,kR,iu,hg,ho⟩
   ·cases h
  ·cases h
 ·cases h
theorem E6{α β:Type}{f:α->Option (List β)}:∀{l:List α} {outs:List β},collect f l=some outs->∀x∈l,∃a,f x=some a/\∀y∈a,y∈outs
 |[],outs,h,x,hx=>by cases hx
 |z::l,outs,h,x,hx=>by
  simp only[collect] at h;cases e:f z with
  |none=>rw[e] at h;cases h
  |some a=>
   rw[e] at h;cases e2:collect f l with
   |none=>simp only[e2] at h;cases h
   |some c=>
    simp only[e2] at h;injection h with h;subst h
    rcases List.mem_cons.1 hx with rfl|hx
    ·exact⟨a,e,fun y hy=>List.mem_append.2<|.inl hy⟩
    ·obtain⟨a',h1,h2⟩:=E6 e2 x hx;exact⟨a',h1,fun y hy=>List.mem_append.2<|.inr<|h2 y hy⟩
def Comes(P:Program)(B:aC)(ρ:ah)(s:AS)(w:World)(fr:AF)(b:Frame)(cs:List Frame)(m:Machine)(outs:List<|(AF×Option Code)×AS):Prop:=∃ko j s1,((ko,j),s1)∈outs/\gX P B ρ s s1 w fr b cs m (.leave ko j)
theorem Fu(bX:P.follows .mixedOrders=true)(hc:dm P B Sy)(hl:∀t a,Sx<|Sy t a):∀(f:Nat) {ρ:ah} {w:World} {s:AS} {a:Act} {fr:AF} {outs:List<|(AF×Option Code)×AS},
 Fr ρ fr b a->At B ρ s fr.nt fr.tmps w a->(∀x∈outs,bH s.nx x.2.nx ρ)->hX P Sy f fr s=some outs->Comes P B ρ s w fr b cs (lone (b.atR a fr.todo) cs w) outs
 |0,ρ,w,s,a,fr,outs,_,_,_,h=>by cases h
 |f+1,ρ,w,s,a,fr,outs,aW,aB,hf,h=>by
  have BD:∀{s2:AS} {aU:AF} {pz:List<|(AF×Option Code)×AS},(∀y∈pz,y∈outs)->hX P Sy f aU s2=some pz->aO s2->s.nx<=s2.nx->gX P B ρ s s2 w fr b cs (lone (b.atR a fr.todo) cs w) (.go aU)->
   Comes P B ρ s w fr b cs (lone (b.atR a fr.todo) cs w) outs:=by
   intro s2 aU pz wF h2 bR fD O9;obtain⟨ne,g1,_⟩:=mH P hl f aU s2 pz bR h2;have hle:∀y∈pz,s2.nx<=y.2.nx:=fun y hy=>by obtain⟨dr,dw,d⟩:=g1 y hy;exact d.nx
   have key:∀σ a' w',Ext s.nx s2.nx ρ σ->Fr σ aU b a'->At B σ s2 aU.nt aU.tmps w' a'->Comes P B σ s2 w' aU b cs (lone (b.atR a' aU.todo) cs w') pz:=fun σ a' w' e1 ry rz=>Fu bX hc hl f ry rz (fun x hx=>(hf x<|wF x hx).next fD e1) h2;obtain⟨σ,a',w',e1,e2,e3,e4,⟨e5,e6,e7⟩,e8,_,e9⟩:=O9;have sj:aU.fn=fr.fn:=e5;have dV:aU.nt=fr.nt:=e6;have hH:aU.round=fr.round:=e7;have P3:Fr σ aU b a':=⟨aW.fn.trans sj.symm,aW.kind,by have:=aW.round.mono e1.le;rw[←hH] at this;exact this,e3,e8⟩;obtain⟨ko,j,s1,eM,τ,rY,gz,f1,f2,f3,f4,⟨f5,f6,f7⟩,f8,f9,f10⟩:=key σ a' w' e1 P3 (by rw[dV];exact e2);exact⟨ko,j,s1,wF _ eM,τ,rY,gz,e1.trans fD (hle _ eM) f1,by rw[dV] at f2;exact f2,f3,e4.trans f4,⟨f5.trans sj,f6.trans dV,f7.trans hH⟩,f8,f9,Steps.trans e9 f10⟩
  cases e:qz fr with
  |none=>
   rw[EO e] at h;unfold jo at h;cases e1:fx P Sy fr s with
   |bad=>simp only[e1] at h;cases h
   |ok x s2=>
    simp only[e1] at h;have bR:=(Sx.fx P hl fr).bg aB.bg e1;have fD:=(Sx.fx P hl fr).le aB.bg e1;cases x with
    |go aU=>have h':hX P Sy f aU s2=some outs:=h;obtain⟨ne,g1,_⟩:=mH P hl f aU s2 outs bR h';obtain⟨y,hy⟩:=List.exists_mem_of_ne_nil _ ne;obtain⟨dr,dw,d⟩:=g1 y hy;exact BD (fun _ hy=>hy) h' bR fD<|vd bX hc hl aW aB ((hf y hy).sub (Nat.le_refl _) d.nx) e1
    |leave aU j=>
     injection (show some [((aU,j),s2)]=some outs from h) with h;subst h
     exact⟨aU,j,s2,by simp,vd bX hc hl aW aB (hf ((aU,j),s2)<|by simp) e1⟩
  |some q=>
   obtain⟨it,o,ops,rest,k⟩:=q;obtain⟨id,kR,iu,Aj,ho⟩:=J5 e;rw[EP e] at h;unfold jo at h;cases e1:mM fr it s with
   |bad=>simp only[e1] at h;cases h
   |ok x s2=>
    simp only[e1] at h;obtain⟨n,ob⟩:=x;obtain⟨h1,h2⟩:=Kp e1;obtain⟨hx,hg,hh,bj⟩:=dW h2;have bR:aO s2:=(Sx.aY n).bg aB.bg h2;have ht:n<top:=Nat.lt_of_lt_of_le hx aB.bg.nx;have hd:∀c,o.op≠ .defer c:=fun c q=>by rw[ho] at q;cases q
    cases ob with
    |iter m es ex left cur=>
     obtain⟨jJ,dy,u⟩:=aB.rel.iter n m es ex left cur ht hg;obtain⟨bn,N,hn,H3⟩:=u.next (P:=P) o.type;have I4:VR ρ (.ptr<|some (n,0))<|a.eval it:=vG aB.tr aB.g h1;have Ah:a.eval it= .pointer (some ⟨bn,0,none⟩):=by simp only[VR] at I4;obtain⟨b',N',q1,q2⟩:=I4;rw[hn] at q1;cases q1;exact q2
     have H4:∀v w',(Instr.next (.pointer<|some ⟨bn,0,none⟩) false o.type).run P w= .ok v w'->(execOp a.eval o).run P w= .ok (.value v) w':=by intro v w' q;simp only[execOp,ho,Ah,Sem.run_bind,q,Result.andThen_ok,Sem.run_pure]
     obtain⟨_,_,_,hB⟩:=aB.rel.block ht hg hn;cases left with
     |nil=>
      have h3:=h;simp only[vU,jo] at h3;cases e3:lK P Sy fr n m es ex o ops rest k s2 with
      |bad=>simp only[e3] at h3;cases h3
      |ok aU s3=>
       simp only[e3] at h3;have oj:(Instr.next (.pointer<|some ⟨bn,0,none⟩) false o.type).run P w= .ok (.tuple #[.bool false]) w:=by
        rcases H3 with⟨_,q⟩|⟨x,r,v1,v2,w',q,_⟩
        ·exact q
        ·cases q
       have eN:=(Sx.lK P hl fr n m es ex o ops rest k).bg bR e3;have xr:=(Sx.lK P hl fr n m es ex o ops rest k).le bR e3;obtain⟨ne,g1,_⟩:=mH P hl f aU s3 outs eN h3;obtain⟨y,hy⟩:=List.exists_mem_of_ne_nil _ ne;obtain⟨dr,dw,d⟩:=g1 y hy;refine BD (fun _ hy=>hy) h3 eN (by omega) ?_;unfold lK at e3;obtain⟨u1,s4,i1,i2⟩:=M.aI e3;obtain⟨u2,s5,i3,i4⟩:=M.aI i2;obtain⟨t1,s6,i5,i6⟩:=M.aI i4;obtain⟨t2,s7,i7,i8⟩:=M.aI i6;obtain⟨rfl,rfl⟩:=aM i8;obtain⟨i9,rfl⟩:=de i5;obtain⟨_,_,_,j1,j2⟩:=gj i1;obtain⟨_,_,_,j3,j4⟩:=gj i3;have DS:aO s6:=(Sx.aZ m _).bg ((Sx.aZ n _).bg bR i1) i3;have C7:Rel B ρ s6.h w:=by rw[j3,j1,hh];exact aB.rel.P2 ht hg
       have DT:VR ρ (.tuple [.bool false])<|.tuple #[.bool false]:=by simp only[VR,aq];exact⟨_,rfl,_,_,rfl,rfl,rfl⟩
       obtain⟨q1,q2⟩:=yE (a:=a) aB.tr aB.nt i9 DT;exact E5 hc hl aW kR iu Aj hd (H4 _ _ oj) (bh.refl _ _) ⟨q1,C7,aB.g,aB.nt,DS⟩ (by rw[j4,j2,bj]) (by rw[j4,j2,bj];exact(hf y hy).sub (Nat.le_refl _) d.nx) i7
     |cons y0 ys=>
      have h3:=h;simp only[vU] at h3;rcases H3 with⟨q,_⟩|⟨x,r,v1,v2,w',eM,Q5,rW,oj,Ak,P4,Q6⟩
      ·cases q
      ·obtain⟨pz,h4,wF⟩:=E6 h3 (x,r) eM;unfold CD jo at h4;cases e3:lT P Sy fr n (.iter m es ex r<|some x) o ops rest k (.tuple [.bool true,x.1,x.2]) s2 with
       |bad=>simp only[e3] at h4;cases h4
       |ok aU s3=>
        simp only[e3] at h4;have eN:=(Sx.lT P hl fr n (.iter m es ex r<|some x) o ops rest k<|.tuple [.bool true,x.1,x.2]).bg bR e3;have xr:=(Sx.lT P hl fr n (.iter m es ex r<|some x) o ops rest k<|.tuple [.bool true,x.1,x.2]).le bR e3;obtain⟨ne,g1,_⟩:=mH P hl f aU s3 pz eN h4;obtain⟨y,hy⟩:=List.exists_mem_of_ne_nil _ ne;obtain⟨dr,dw,d⟩:=g1 y hy;refine BD wF h4 eN (by omega) ?_;unfold lT at e3;obtain⟨u1,s4,i1,i2⟩:=M.aI e3;obtain⟨t1,s6,i5,i6⟩:=M.aI i2;obtain⟨t2,s7,i7,i8⟩:=M.aI i6;obtain⟨rfl,rfl⟩:=aM i8;obtain⟨i9,rfl⟩:=de i5;obtain⟨_,_,_,j1,j2⟩:=gj i1;have DS:aO s6:=(Sx.aZ n _).bg bR i1;have C7:Rel B ρ s6.h w':=by rw[j1,hh];exact aB.rel.Oc ht hg hn Ak P4 Q6
        have DT:VR ρ (.tuple [.bool true,x.1,x.2])<|.tuple #[.bool true,v1,v2]:=by simp only[VR,aq];exact⟨_,rfl,_,_,rfl,rfl,_,_,rfl,Q5,_,_,rfl,rW,rfl⟩
        obtain⟨q1,q2⟩:=yE (a:=a) aB.tr aB.nt i9 DT;exact E5 hc hl aW kR iu Aj hd (H4 _ _ oj) (Ak.below<|hB rfl) ⟨q1,C7,aB.g,aB.nt,DS⟩ (by rw[j2,bj]) (by rw[j2,bj];exact(hf y<|wF y hy).sub (Nat.le_refl _) d.nx) i7
    |_=>cases h
end
end Go.Rn
