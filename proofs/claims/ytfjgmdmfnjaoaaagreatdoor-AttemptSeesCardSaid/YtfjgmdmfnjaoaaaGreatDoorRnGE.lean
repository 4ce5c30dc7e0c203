import Derived.Test.YtfjgmdmfnjaoaaaGreatDoorRnGD
import Derived.CheckFast
import Derived.Lib.Join
import Derived.Lib.ItoaNum
import Derived.LaidMore
import Derived.LaidHandle
import Derived.Lib.LaidTab
import Derived.Sort.Grow
import Derived.Deep.Draws
set_option maxRecDepth 100000
set_option maxHeartbeats 8000000
set_option linter.unusedSimpArgs false
set_option linter.unusedVariables false
namespace Go.Rn
open Go.RowKit
section
variable {P:Program} {B:aL} {ρ:aw} {w:World} {s s1:AS} {YO:aK}
theorem Y8{g:FuncId}{fn:Func}{body:Code}{args:List AV}{vs:Array Value}{fr:AF}{j:Option Code}{s2 s3:AS}{x:AV}(cq:P.funcs[g]? =some fn)(cx:fn.body=some body)(z9:bD s2)(hw:∀cs:List Frame,nG P B ρ s s2 w ⟨g,ep args,max fn.ntmps args.length,[.code body],[],none⟩ {(default:Frame) with fn:=g,kind:=.normal,roundOf:=none} cs
 (lone (({(default:Frame) with fn:=g,kind:=.normal,roundOf:=none}:Frame).atR {tmps:=vs++Array.replicate (fn.ntmps - vs.size) undef,defers:=[]} [.code body]) cs w) (.leave fr j))(pG:finish P fn.results.toList fr j s2= .ok x s3):Calls P g vs w fun e w'=>∃v,e= .returned v/\j8 B ρ s s3 w x v w':=by
 intro cs;let b:Frame:={(default:Frame) with fn:=g,kind:=.normal,roundOf:=none};let a:Act:={tmps:=vs++Array.replicate (fn.ntmps - vs.size) undef,defers:=[]};have th:Frame.enter P g vs .normal=b.atR a [.code body]:=by simp[Frame.enter,Frame.atR,cq,cx,b,a]
 obtain⟨σ,a',w',e1,e2,e3,e4,⟨e5,Ch,aiG⟩,e6,e7,e8⟩:=hw cs;obtain⟨hj,u2,s4,rs,h7,h9,hx⟩:=H9 pG;have mV:bD s4:=(YN.oq _).cO z9 h7;have np:Leaves j fr.todo:=e7;obtain⟨d1,d2,w2,d3,d4,d5⟩:=Fa (P:=P) (fr:=b) (cs:=cs) z9 e2.rel e3 h7;obtain⟨f1,f2,us,f3,f4⟩:=E9 (P:=P) (w:=w2) e2.tr mV d3 h9;have BI:Steps P (lone (b.atR a' fr.todo) cs w')<|lone {b.atR a' fr.todo with mode:=.returning} cs w':=by
  rcases hj with rfl|rfl
  ·have e:fr.todo=[]:=np;rw[e];exact .one<|stepR_end rfl
  ·obtain⟨k,e⟩:=np;rw[e];exact .one<|stepR_ret rfl
 have tM:=d5 {b.atR a' fr.todo with mode:=.returning} cs iH rfl;have kv:(results fn a'.tmps).run P w2= .ok (mg us) w2:=by
  unfold results;rw[Array.mapM_eq_mapM_toList];simp only[Sem.run_bind,map_eq_pure_bind,Sem.run_pure];refine Eq.trans (congrArg (fun r:Result (List Value)=>(r.andThen fun a w'=>Result.ok a.toArray w').andThen fun a w'=>Result.ok (if h:a.size=1 then a[0] else Value.tuple a) w') f3) ?_;have:∀l:List Value,(Result.ok (if h:l.toArray.size=1 then l.toArray[0] else Value.tuple l.toArray) w2:Result Value)= .ok (mg l) w2:=by
   intro l
   match l with
   |[]=>rfl
   |[v]=>rfl
   |v::v2::l=>simp[mg]
  exact this us
 refine⟨.returned<|mg us,w2,{b.atR a' fr.todo with mode:=.returning,defers:=[]},⟨_,rfl,?_⟩,?_,rfl,?_⟩
 ·exact⟨σ,by rw[show s3.nx=s2.nx by rw[f2,d1]];exact e1,by rw[hx];exact Io f4,by rw[f1];exact d3,e4.trans d4⟩
 ·rw[th];exact Steps.trans e8<|Steps.trans BI tM
 ·exact⟨rfl,rfl,rfl,fn,cq,kv⟩
end
end Go.Rn
namespace Go.Rn
open Go.RowKit
noncomputable section
end
section
variable {P:Program} {YO:aK}
end
end Go.Rn
namespace Go.Rn
open Go.RowKit
variable {k o n:Nat} {x:AV} {aV:AF} {f:FuncId} {vs:Array Value} {j:Option Code} {fn:Func} {body:Code} {args:List AV} {F:Nat->Option (List AV)}
noncomputable section
def bt.UF:bt->Bool
 | .go _=>false
 | .leave _ _=>true
def pn(P:Program)(YO:aK)(fr:AF):M bt:=fun s=> @dite (R bt) (∃k,∃x s1,dZ P YO k fr s= .ok x s1/\x.UF=true) (Classical.propDecidable _) (fun h=>dZ P YO h.choose fr s) fun _=>.bad
def uY(P:Program)(f ntmps:Nat)(rs:List ResultVar)(body:Code)(YO:aK)(args:List AV):M AV:=
 aH (Nat.ble (max ntmps args.length) top) <|
 (pn P YO ⟨f,ep args,max ntmps args.length,[.code body],[],none⟩).bind fun st=> @bt.rec (fun _=>M AV) (fun _=>fail) (fun fr j=>finish P rs fr j) st
def wP(P:Program)(YO:aK)(l:Nat)(args:List AV):M AV:=(getLoop l).bind fun o=>match o with
 | .loop _ _ fn t nt ps a b _=>
  aH (and (Nat.beq args.length ps.length)<|ps.all fun p=>Nat.blt p nt) <|
  (pn P YO ⟨fn,jy ps args t,nt,[.code a,.beginRound,.code b],[],some l⟩).bind fun st=> @bt.rec (fun _=>M AV) (fun _=>fail) (fun _ j=>endRound l j) st
 |_=>fail
abbrev Sp:=FuncId->Option (aK->List AV->M AV)
def ki(P:Program)(sp:Sp)(f:FuncId):aK->List AV->M AV:=
 match sp f with
 |some m=>m
 |none=>match P.funcs[f]? with
  |none=>fun _ _=>fail
  |some fn=>match fn.body with
   |none=>fun _ _=>fail
   |some body=>match fn.name == "runtime.NumGoroutine" with
    |true=>fun _ _=>fail
    |false=>uY P f fn.ntmps fn.results.toList body
def qE(F:Nat->Option (List AV))(n o k:Nat):M AV:=aC (F n) fun l=>aH (Nat.ble (o+k) l.length) <| M.pure<|.agg<|(l.drop o).take k
def bh(P:Program)(sp:Sp)(F:Nat->Option (List AV)):Nat->aK
 |0=>fun t _=>match t with
  | .row n o k=>qE F n o k
  |_=>fail
 |n+1=>fun t args=>match t with
  | .fn f=>ki P sp f (bh P sp F n) args
  | .round l=>wP P (bh P sp F n) l args
  | .row n o k=>qE F n o k
end
section
variable {P:Program} {B:aL} {ρ:aw} {w:World} {s s1:AS} {YO:aK} {b:Frame} {a:Act} {cs:List Frame}
theorem SX{fr:AF}:dZ P YO (k+1) fr s=((jf P YO fr).bind fun x=> @bt.rec (fun _=>M bt) (dZ P YO k) (fun fr j=>M.pure<|.leave fr j) x) s:=rfl
theorem AT{fr:AF}(h:jf P YO fr s= .ok (.go aV) s1):dZ P YO (k+1) fr s=dZ P YO k aV s1:=by rw[SX,M.bQ h]
theorem ab9{fr:AF}(h:jf P YO fr s= .ok (.leave aV j) s1):dZ P YO (k+1) fr s= .ok (.leave aV j) s1:=by rw[SX,M.bQ h];rfl
theorem ME:∀{k k':Nat} {fr aV:AF} {j:Option Code} {s s1:AS},dZ P YO k fr s= .ok (.leave aV j) s1->k<=k'->dZ P YO k' fr s= .ok (.leave aV j) s1
 |0,_,_,_,_,_,_,h,_=>by cases h
 |k+1,0,_,_,_,_,_,_,hk=>by omega
 |k+1,k'+1,fr,aV,j,s,s1,h,hk=>by
  obtain⟨y,s2,h1,h2⟩:=M.aR (show((jf P YO fr).bind fun x=> @bt.rec (fun _=>M bt) (dZ P YO k) (fun fr j=>M.pure<|.leave fr j) x) s= .ok _ s1 from h);cases y with
  |go nX=>rw[AT h1];exact ME (show dZ P YO k nX s2=_ from h2) aj
  |leave nX j'=>rw[ab9 h1];exact h2
theorem Ip{fr:AF}(h:dZ P YO k fr s= .ok (.leave aV j) s1):pn P YO fr s= .ok (.leave aV j) s1:=by
 have hex:∃k,∃x s1,dZ P YO k fr s= .ok x s1/\x.UF=true:=⟨k,_,_,h,rfl⟩;unfold pn;rw[dif_pos hex];obtain⟨x,s2,h1,h2⟩:=hex.choose_spec;cases x with
 |go _=>cases h2
 |leave jV j2=>have e1:=ME h1<|Nat.le_max_left hex.choose k;have e2:=ME h<|Nat.le_max_right hex.choose k;rw[e1] at e2;rw[h1,e2]
theorem Si{fr:AF}{x:bt}(h:pn P YO fr s= .ok x s1):∃k aV j,x= .leave aV j/\dZ P YO k fr s= .ok (.leave aV j) s1:=by
 unfold pn at h;split at h
 ·rename_i hex;obtain⟨y,s2,h1,h2⟩:=hex.choose_spec;cases y with
  |go _=>cases h2
  |leave jV j2=>rw[h1] at h;cases h;exact⟨_,jV,j2,rfl,h1⟩
 ·cases h
theorem YN.pn(P:Program){YO:aK}(hl:∀t a,YN<|YO t a)(fr:AF):YN<|pn P YO fr:=by intro s v s1 fi h;obtain⟨k,aV,j,rfl,h1⟩:=Si h;obtain⟨dr,dw,d,al⟩:=YN.dZ P hl k fr s _ s1 fi h1;refine⟨dr,dw,d,fun A m0 t ag hA=>?_⟩;obtain⟨t1,e1,e2⟩:=al A m0 t ag hA;exact⟨t1,Ip e1,e2⟩
theorem YN.uY(P:Program)(f n:Nat)(rs:List ResultVar)(body:Code){YO:aK}(bI:∀t a,YN<|YO t a)(args:List AV):YN<|uY P f n rs body YO args:=
 YN.aH (fun _=>YN.bind (YN.pn P bI _) (fun x=>by
  cases x with
  |go fr=>exact YN.fail
  |leave fr j=>exact YN.finish P rs fr j))
theorem YN.wP(P:Program){YO:aK}(bI:∀t a,YN<|YO t a)(l:Nat)(args:List AV):YN<|wP P YO l args:=by
 unfold Rn.wP;refine YN.bind (YN.getLoop _) fun o=>?_;split
 ·exact YN.aH fun _=>YN.bind (YN.pn P bI _) (fun x=>by
   cases x with
   |go fr=>exact YN.fail
   |leave fr j=>exact YN.endRound l j)
 ·exact YN.fail
structure Kz (P:Program) (B:aL) (sp:Sp):Prop where
 loc:∀f m,sp f=some m->∀YO:aK,(∀t a,YN<|YO t a)->∀args,YN<|m YO args
 EH:∀f m,sp f=some m->∀YO:aK,fP P B YO->(∀t a,YN<|YO t a)->∀(args:List AV) (x:AV) (s s1:AS) (ρ:aw) (w:World) (vs:Array Value),bD s->Rel B ρ s.h w->gb ρ->dF s.nx s1.nx ρ->
  m YO args s= .ok x s1->aA ρ args vs.toList->jk P ((callFunc f vs).run P w) (j8 B ρ s s1 w x)
theorem uZ{sp:Sp}{m:aK->List AV->M AV}(h:sp f=some m):ki P sp f=m:=by unfold ki;rw[h]
theorem Np{sp:Sp}(h:sp f=none)(cq:P.funcs[f]? =some fn)(cx:fn.body=some body)(dL:(fn.name == "runtime.NumGoroutine")=false):ki P sp f=uY P f fn.ntmps fn.results.toList body:=by unfold ki;simp only[h,cq,cx,dL]
theorem SY(sp:Sp)(f:FuncId):(∃m,sp f=some m/\ki P sp f=m)\/(ki P sp f=fun _ _=>fail)\/(∃fn body,P.funcs[f]? =some fn/\fn.body=some body/\(fn.name == "runtime.NumGoroutine")=false/\ki P sp f=uY P f fn.ntmps fn.results.toList body):=by
 cases e:sp f with
 |some m=>exact .inl ⟨m,rfl,uZ e⟩
 |none=>
  cases e1:P.funcs[f]? with
  |none=>refine .inr<|.inl ?_;unfold ki;simp only[e,e1]
  |some fn=>
   cases e2:fn.body with
   |none=>refine .inr<|.inl ?_;unfold ki;simp only[e,e1,e2]
   |some body=>
    cases e3:(fn.name == "runtime.NumGoroutine") with
    |true=>refine .inr<|.inl ?_;unfold ki;simp only[e,e1,e2,e3]
    |false=>exact .inr<|.inr ⟨fn,body,rfl,e2,e3,Np e e1 e2 e3⟩
theorem aaZ(P:Program){sp:Sp}(hs:Kz P B sp)(f:FuncId){YO:aK}(hl:∀t a,YN<|YO t a)(args:List AV):YN<|ki P sp f YO args:=by
 rcases SY (P:=P) sp f with⟨m,e1,e2⟩|e|⟨fn,body,e1,e2,e3,e⟩
 ·rw[e2];exact hs.loc f m e1 YO hl args
 ·rw[e];exact YN.fail
 ·rw[e];exact YN.uY P _ _ _ _ hl _
theorem YN.qE(F:Nat->Option (List AV))(n o k:Nat):YN<|qE F n o k:=YN.aC fun _ _=>YN.aH fun _=>YN.pure _
theorem CL(P:Program){sp:Sp}(hs:Kz P B sp)(F:Nat->Option (List AV)):∀(n:Nat) (t:Hb) (args:List AV),YN (bh P sp F n t args)
 |0,.fn _,_=>YN.fail
 |0,.round _,_=>YN.fail
 |0,.row n o k,_=>YN.qE F n o k
 |n+1,.fn f,args=>aaZ P hs f (fun t a=>CL P hs F n t a) args
 |n+1,.round l,args=>YN.wP P (fun t a=>CL P hs F n t a) l args
 |_+1,.row n o k,_=>YN.qE F n o k
theorem Vz{ρ:aw}{c:Array Value}:∀{l:List AV} {off:Nat},(∀(i:Nat) (x:AV),l[i]? =some x->∃v,c[off+i]? =some v/\VR ρ x v)->∃vs:List Value,vs.length=l.length/\aA ρ l vs/\∀(j:Nat) (v:Value),vs[j]? =some v->c[off+j]? =some v
 |[],off,_=>⟨[],rfl,by simp only[aA],fun j v h=>by simp at h⟩
 |x::l,off,h=>by
  obtain⟨v,h1,h2⟩:=h 0 x rfl;obtain⟨vs,g1,g2,g3⟩:=Vz (l:=l) (off:=off+1) (fun i y hy=>by obtain⟨u,k1,k2⟩:=h (i+1) y (by simpa using hy);exact⟨u,by rw[Nat.add_assoc,Nat.add_comm 1 i];exact k1,k2⟩);refine⟨v::vs,by simp[g1],by simp only[aA];exact⟨v,vs,rfl,h2,g2⟩,fun j u hj=>?_⟩;cases j with
  |zero=>simp at hj;subst hj;simpa using h1
  |succ j=>have:=g3 j u (by simpa using hj);rw[Nat.add_assoc,Nat.add_comm 1 j] at this;exact this
theorem aca(h:qE F n o k s= .ok x s1):s1=s/\∃l,F n=some l/\o+k<=l.length/\x= .agg ((l.drop o).take k):=by unfold qE at h;obtain⟨l,h1,h2⟩:=bu h;obtain⟨h3,h4⟩:=cZ h2;obtain⟨rfl,rfl⟩:=bK h4;exact⟨rfl,l,h1,aM.1 h3,rfl⟩
theorem TJ(hF:B.F=F)(r:Rel B ρ s.h w)(h:qE F n o k s= .ok x s1):
 s1.h=s.h/\s1.nx=s.nx/\∀b sh,ρ (hn n b sh)≠none->∃l vs,x= .agg l/\vs.length=k/\aA ρ l vs/\∃c e fr,w.heap[b]? =some (.cells c e fr)/\∀(j:Nat) (v:Value),vs[j]? =some v->c[sh+o+j]? =some v:=by
 obtain⟨rfl,l,h1,h2,rfl⟩:=aca h;rw[←hF] at h1;refine⟨rfl,rfl,fun b sh hb=>?_⟩;obtain⟨_,l',c,e,fr,g1,g2,_,g4⟩:=r.fz n b sh hb;rw[h1] at g1;cases g1;obtain⟨vs,q1,q2,q3⟩:=Vz (ρ:=ρ) (c:=c) (l:=(l.drop o).take k) (off:=sh+o) (fun i y hy=>by
  have v7:l[o+i]? =some y:=by
   rw[List.getElem?_take] at hy;split at hy
   ·rw[List.getElem?_drop] at hy;exact hy
   ·cases hy
  obtain⟨v,k1,k2,_⟩:=g4 (o+i) y v7;exact⟨v,by rw[Nat.add_assoc];exact k1,VR.mono (FX ρ) _ _ k2⟩)
 refine⟨_,vs,rfl,?_,q2,c,e,fr,g2,q3⟩;rw[q1,List.length_take,List.length_drop];omega
theorem Sj(bY:P.follows .mixedOrders=true)(hc:fP P B YO)(hl:∀t a,YN<|YO t a){af:AF}{x:bt}(bS:Fr ρ af b a)(aB:At B ρ s af.nt af.tmps w a)(hf:dF s.nx s1.nx ρ)(h:pn P YO af s= .ok x s1):nG P B ρ s s1 w af b cs (lone (b.atR a af.todo) cs w) x:=by obtain⟨k,aV,j,rfl,h1⟩:=Si h;exact IE bY hc hl k bS aB hf h1
theorem aa0(bY:P.follows .mixedOrders=true)(hc:fP P B YO)(hl:∀t a,YN<|YO t a)(cq:P.funcs[f]? =some fn)(cx:fn.body=some body)(dL:(fn.name == "runtime.NumGoroutine")=false)(dq:ir body)(fi:bD s)(r:Rel B ρ s.h w)(hg:gb ρ)(hf:dF s.nx s1.nx ρ)(h:uY P f fn.ntmps fn.results.toList body YO args s= .ok x s1)(hv:aA ρ args vs.toList):jk P ((callFunc f vs).run P w)<|j8 B ρ s s1 w x:=by
 have bI:(callFunc f vs).run P w= .ok (.enter f vs) w:=by
  have Gn:(program).run P w= .ok P w:=rfl;have hn:fn.name≠ "runtime.NumGoroutine" :=by simpa using dL
  simp only[callFunc,Sem.run_bind,Gn,Result.andThen_ok,cq,dL,cx];simp
 rw[bI];unfold uY at h;obtain⟨h1,h2⟩:=cZ h;have oX:=aM.1 h1;obtain⟨y,s2,h3,h4⟩:=M.aR h2;cases y with
 |go fr=>cases h4
 |leave fr j=>have Lc:finish P fn.results.toList fr j s2= .ok x s1:=h4;have eG:=(YN.pn P hl ⟨f,ep args,max fn.ntmps args.length,[.code body],[],none⟩).cO fi h3;have Hp:=(YN.finish P fn.results.toList fr j).le eG Lc;exact Y8 cq cx eG (fun cs=>Sj (b:={(default:Frame) with fn:=f,kind:=.normal,roundOf:=none}) (a:={tmps:=vs++Array.replicate (fn.ntmps - vs.size) undef,defers:=[]}) bY hc hl ⟨rfl,rfl,trivial,rfl,.cons dq .nil⟩ ⟨HT hv _ oX,r,hg,oX,fi⟩ (hf.sub (Nat.le_refl _) Hp) h3) Lc
theorem aac(bY:P.follows .mixedOrders=true)(hc:fP P B YO)(hl:∀t a,YN<|YO t a){l bl N:Nat}(fi:bD s)(r:Rel B ρ s.h w)(hg:gb ρ)(hf:dF s.nx s1.nx ρ)(h:wP P YO l args s= .ok x s1)(hv:aA ρ args vs.toList)(Cg:ρ l=some (bl,N)):jk P ((Instr.yield bl vs).run P w)<|j8 B ρ s s1 w x:=by
 unfold wP at h;obtain⟨o,s2,h1,h2⟩:=M.aR h;obtain⟨h3,st,bR,fn,t,nt,ps,aa,bb,d,rfl⟩:=CK h1;obtain⟨h4,h5⟩:=cZ h2;obtain⟨y,s3,h6,h7⟩:=M.aR h5;obtain⟨q1,q2⟩:=and_true.1 h4;have hlen:=dT.1 q1;have Hr:∀p∈ps,p<nt:=fun p hp=>by have:=List.all_eq_true.1 q2 p hp;rw[←blt_eq];exact this
 obtain⟨hx,j9,hh,cQ⟩:=fX h3;have eG:bD s2:=(YN.bq _).cO fi h3;have bB:l<top:=Nat.lt_of_lt_of_le hx fi.nx;obtain⟨o',hb,hO,hB⟩:=r.block bB j9 Cg;obtain⟨ta,db,M,rfl,yk,iY,hd,gm⟩:=hO;have Ox:(Instr.yield bl vs).run P w= .ok (.round bl fn ((ps.zip vs.toList).foldl (fun tmps (t,a)=>tmps.setIfInBounds t a) ta) aa bb) w:=by
  have lf:¬(vs.size≠ps.toArray.size):=by have:=hv.length;simp at this ⊢;omega
  simp only[Instr.yield,Sem.run_bind,CH hb,Result.andThen_ok,if_neg lf,Sem.run_pure];rw[←Array.foldl_toList];simp
 rw[Ox];intro c cs;cases y with
 |go fr=>cases h7
 |leave fr j=>
  have B9:endRound l j s3= .ok x s1:=h7;let b:Frame:={(default:Frame) with fn:=fn,kind:=.normal,roundOf:=some bl};let a:Act:={tmps:=(ps.zip vs.toList).foldl (fun tmps (t,a)=>tmps.setIfInBounds t a) ta,defers:=[]};have lG:=(YN.pn P hl ⟨fn,jy ps args t,nt,[.code aa,.beginRound,.code bb],[],some l⟩).cO eG h6;have Hs:=(YN.endRound l j).le lG B9;have bS:Fr ρ ⟨fn,jy ps args t,nt,[.code aa,.beginRound,.code bb],[],some l⟩ b a:=⟨rfl,rfl,⟨N,Cg⟩,rfl,.cons gm.assign<|.cons trivial<|.cons gm.body .nil⟩;have aB:At B ρ s2 nt (jy ps args t) w a:=⟨LQ iY yk hv Hr,by rw[hh];exact r,hg,iY,eG⟩;obtain⟨σ,a',w',e1,e2,e3,e4,_,_,e6,e7⟩:=Sj (cs:=c::cs) bY hc hl bS aB (by rw[cQ];exact hf.sub (Nat.le_refl _) Hs) h6;have iZ:Leaves j fr.todo:=e6;obtain⟨f1,rfl,nj,f2,f3,f4⟩:=RH (P:=P) lG e2.rel (e1.le _ _ Cg) iZ.code B9;refine⟨.bool j.isNone,nj,⟨σ,by rw[f1, ←cQ];exact e1,by simp only[VR],f3,e4.trans f4⟩,?_⟩;have th:Frame.round bl fn ((ps.zip vs.toList).foldl (fun tmps (t,a)=>tmps.setIfInBounds t a) ta) aa bb .normal=b.atR a [.code aa,.beginRound,.code bb]:=rfl;rw[th];refine Steps.trans e7<|.one ?_;show step P (lone (b.atR a' fr.todo) (c::cs) w')=_;unfold Leaves at iZ;split at iZ
  ·rw[iZ];exact stepR_round_end rfl rfl f2
  ·obtain⟨k,e⟩:=iZ;rw[e];exact stepR_round_ret rfl rfl f2
  ·obtain⟨k,e,e'⟩:=iZ;rw[e];exact stepR_round_exit rfl rfl e' f2
  ·obtain⟨k,e,e'⟩:=iZ;rw[e];exact stepR_round_goto rfl rfl e' f2
  ·cases iZ
theorem SZ(hP:bE P){sp:Sp}(hs:Kz P B sp){F:Nat->Option (List AV)}(hF:B.F=F):∀(n:Nat),fP P B (bh P sp F n)
 |0=>⟨(fun f args x s s1 ρ w vs _ _ _ _ h _=>by cases h),(fun l b N args x s s1 ρ w vs _ _ _ _ h _ _=>by cases h),(fun n o k x s s1 ρ w _ r h=>TJ hF r h)⟩
 |n+1=>by
  have ih:=SZ hP hs hF n;refine⟨fun f args x s s1 ρ w vs fi r hg hf h hv=>?_,fun l b N args x s s1 ρ w vs fi r hg hf h hv hl=>aac hP.mixed ih (CL P hs F n) fi r hg hf h hv hl,(fun n o k x s s1 ρ w _ r h=>TJ hF r h)⟩;have h':ki P sp f (bh P sp F n) args s= .ok x s1:=h;rcases SY (P:=P) sp f with⟨m,e1,e2⟩|e|⟨fn,body,e1,e2,e3,e⟩
  ·rw[e2] at h';exact hs.EH f m e1 _ ih (CL P hs F n) args x s s1 ρ w vs fi r hg hf h' hv
  ·rw[e] at h';cases h'
  ·rw[e] at h';exact aa0 hP.mixed ih (CL P hs F n) e1 e2 e3 (hP.code f fn body e1 e2) fi r hg hf h' hv
end
end Go.Rn
namespace Go.Rn
open Go.RowKit
variable {r:Nat->Nat} {k:Nat}
def bw(r:Nat->Nat)(x y:AV):Prop:=∀(ρ:aw) (v:Value),VR ρ x v->VR (fun k=>ρ<|r k) y v
def mu(r:Nat->Nat)(x y:ab):Prop:=∀(ρ:aw) (N:Nat) (o:Obj),OR ρ N x o->OR (fun k=>ρ<|r k) N y o
def au(P:Program)(B:aL)(J:Nat)(Q:Tr AV->List Nat->Option Code->AS->Prop)(fr:AF)(s:AS):Prop:=∀(ρ:aw) (w:World) (b:Frame) (a:Act) (cs:List Frame),Fr ρ fr b a->At B ρ s fr.nt fr.tmps w a->(∀k,s.nx<=k->k<top->ρ k=none)->∃(aV:AF) (j:Option Code) (s1:AS) (σ:aw) (a':Act) (w':World),Q aV.tmps aV.defers j s1/\J<=s1.nx/\(∀k,k<J->k<top->σ k=ρ k)/\(∀k x,top<=k->ρ k=some x->σ k=some x)/\(∀k,s1.nx<=k->k<top->σ k=none)/\At B σ s1 fr.nt aV.tmps w' a'/\vO σ aV.defers a'.defers/\cL B w w'/\(aV.fn=fr.fn/\aV.nt=fr.nt/\aV.round=fr.round)/\jB aV.todo/\Leaves j aV.todo/\Steps P (lone (b.atR a fr.todo) cs w) (lone (b.atR a' aV.todo) cs w')
section
variable {P:Program} {B:aL} {J:Nat} {Q:Tr AV->List Nat->Option Code->AS->Prop} {ρ:aw} {w:World} {s s1 s2:AS} {YO:aK} {fr aV:AF} {j:Option Code}
theorem au.chunk(bY:P.follows .mixedOrders=true)(hc:fP P B YO)(hl:∀t a,YN<|YO t a)(h:dZ P YO k fr s= .ok (.go aV) s1)(h0:J<=s.nx)(H:au P B J Q aV s1):au P B J Q fr s:=by intro ρ w b a cs bS aB hf;have mU:=(YN.dZ P hl k fr).le aB.cO h;have Qt:=((YN.dZ P hl k fr).cO aB.cO h).nx;obtain⟨σ,a1,w1,e1,e2,e3,e4,⟨e5,e6,e7⟩,e8,_,e9⟩:=IE (b:=b) (cs:=cs) bY hc hl k bS aB (fun k h1 _ h3=>hf k h1 h3) h;have Ch:aV.fn=fr.fn:=e5;have iZ:aV.nt=fr.nt:=e6;have np:aV.round=fr.round:=e7;obtain⟨jV,j,s2,τ,a2,w2,q0,qn,q1,Ht,q2,q3,q4,q5,⟨q6,q7,q8⟩,q9,QA,QB⟩:=H σ w1 b a1 cs ⟨bS.fn.trans Ch.symm,bS.kind,by rw[np];exact bS.round.mono e1.le,e3,e8⟩ (by rw[iZ];exact e2) fun k hk ht=>(e1.out k ht aj).trans<|hf k aj ht;exact⟨jV,j,s2,τ,a2,w2,q0,qn,fun k hk gk=>(q1 k hk gk).trans<|e1.out k gk aj,fun k x hk hx=>Ht k x hk<|e1.le _ _ hx,q2,by rw[←iZ];exact q3,q4,e4.trans q5,⟨q6.trans Ch,q7.trans iZ,q8.trans np⟩,q9,QA,Steps.trans e9 QB⟩
theorem au.leave(bY:P.follows .mixedOrders=true)(hc:fP P B YO)(hl:∀t a,YN<|YO t a)(h:dZ P YO k fr s= .ok (.leave aV j) s1)(h0:J<=s.nx)(hq:Q aV.tmps aV.defers j s1):au P B J Q fr s:=by intro ρ w b a cs bS aB hf;have mU:=(YN.dZ P hl k fr).le aB.cO h;have Qt:=((YN.dZ P hl k fr).cO aB.cO h).nx;obtain⟨σ,a1,w1,e1,e2,e3,e4,⟨e5,e6,e7⟩,e8,e10,e9⟩:=IE (b:=b) (cs:=cs) bY hc hl k bS aB (fun k h1 _ h3=>hf k h1 h3) h;exact⟨aV,j,s1,σ,a1,w1,hq,Nat.le_trans h0 mU,fun k hk gk=>e1.out k gk aj,fun k x _ hx=>e1.le _ _ hx,fun k hk ht=>(e1.out k ht aj).trans<|hf k aj ht,e2,e3,e4,⟨e5,e6,e7⟩,e8,e10,e9⟩
abbrev ng:=List<|Nat×Nat×List AV
def Marks(fz:ng)(ρ eY:aw):Prop:=ρ.le eY/\(∀k,k<top->eY k=ρ k)/\∀p∈fz,∀b N,ρ p.1=some (b,N)->eY (hn p.2.1 b 0)≠none
open Classical in
noncomputable def marks(fz:ng)(ρ:aw):aw:=fun k=>if ρ k=none/\∃p∈fz,∃b N,ρ p.1=some (b,N)/\k=hn p.2.1 b 0 then some (0,0) else ρ k
theorem TK(fz:ng)(ρ:aw):Marks fz ρ<|marks fz ρ:=by
 refine⟨fun k x e=>?_,fun k hk=>?_,fun p hp b N e=>?_⟩
 ·unfold marks;rw[if_neg (fun q=>by rw[e] at q;cases q.1)];exact e
 ·unfold marks;rw[if_neg (fun⟨_,p,_,b,N,_,q⟩=>by have:=fY p.2.1 b 0;omega)]
 ·unfold marks;by_cases q:ρ (hn p.2.1 b 0)=none
  ·rw[if_pos ⟨q,p,hp,b,N,e,rfl⟩];exact fun h=>by cases h
  ·rw[if_neg fun z=>q z.1];exact q
theorem S0{fz:ng}{ρ:aw}(h:marks fz ρ k≠none):ρ k≠none\/∃p∈fz,∃b N,ρ p.1=some (b,N)/\k=hn p.2.1 b 0:=by
 unfold marks at h;split at h
 ·rename_i q;exact .inr q.2
 ·exact .inl h
def oM(fz:ng)(r:Nat->Nat)(x y:AV):Prop:=∀(ρ eY:aw) (v:Value),Marks fz ρ eY->VR ρ x v->VR (fun k=>eY<|r k) y v
def iu(fz:ng)(r:Nat->Nat)(x y:ab):Prop:=∀(ρ eY:aw) (N:Nat) (o:Obj),Marks fz ρ eY->OR ρ N x o->OR (fun k=>eY<|r k) N y o
theorem bw.z{fz:ng}{x y:AV}(h:bw r x y):oM fz r x y:=fun ρ eY v m hv=>h eY v<|VR.mono m.1 _ _ hv
theorem mu.z{fz:ng}{x y:ab}(h:mu r x y):iu fz r x y:=fun ρ eY N o m hv=>h eY N o<|hv.mono m.1
def Wd(F:Nat->Option (List AV))(h:Tr ab)(p:Nat×Nat×List AV):Prop:=p.1<top/\F p.2.1=some p.2.2/\∃N t z,h.get p.1=some (.cells N t z)/\∀i x,p.2.2[i]? =some x->i<N/\cellAt t z i=some x/\x.cf=true/\∀ρ v,VR ρ x v->VR (gi ρ) x v
theorem Rel.aiI{B:aL}{ρ:aw}{h h2:Tr ab}{w:World}(fz:ng)(R:Rel B ρ h w)(Ci:∀k,top<=k->r k=k)(hz:∀p∈fz,Wd B.F h p)(hh:∀n o2,n<top->h2.get n=some o2->r n<top/\o2.pk=true/\∃o1,h.get (r n)=some o1/\gJ o1 o2/\iu fz r o1 o2)(tM:∀p∈fz,∀n o2,n<top->h2.get n=some o2->r n≠p.1)(Ea:∀n m o p,n<top->m<top->h2.get n=some o->h2.get m=some p->r n=r m->n=m):Rel B (fun k=>marks fz ρ<|r k) h2 w:=by
 have hm:=TK fz ρ;refine⟨fun n o hn hg=>?_,fun n m o p b N M hn eg hg l6 cV e1 e2=>?_,fun n m es ex left cur hn hg=>?_,R.size,fun i j m es ex left cur hI jr iR iU hi _ hg _=>?_,fun n b sh e=>?_,?_⟩
 ·obtain⟨a1,_,o1,a3,a4,a5⟩:=hh n o hn hg;obtain⟨b,N,o',b1,b2,b3,b4⟩:=R.is (r n) o1 a1 a3;exact⟨b,N,o',(hm.2.1 _ a1).trans b1,b2,a5 ρ _ N o' hm b3,fun q=>b4<|a4.1 q⟩
 ·obtain⟨a1,_,o1,a3,a4,_⟩:=hh n o hn hg;obtain⟨c1,_,p1,c3,c4,_⟩:=hh m p eg l6;have e1:marks fz ρ (r n)=some (b,N):=e1;have e2:marks fz ρ (r m)=some (b,M):=e2;rw[hm.2.1 _ a1] at e1;rw[hm.2.1 _ c1] at e2;exact Ea n m o p hn eg hg l6<|R.one (r n) (r m) o1 p1 b N M a1 c1 a3 c3 (cV.imp a4.1 c4.1) e1 e2
 ·have:=(hh n _ hn hg).2.1;simp[ab.pk] at this
 ·have:=(hh i _ hi hg).2.1;simp[ab.pk] at this
 ·have e:marks fz ρ (r<|hn n b sh)≠none:=e;rw[Ci _<|fY _ _ _] at e;have hle:(gi ρ).le<|gi fun k=>marks fz ρ<|r k:=by
   intro k x e;unfold gi at e ⊢;split at e
   ·rename_i q;rw[if_pos q];show marks fz ρ (r k)=some x;rw[Ci k q];exact hm.1 _ _ e
   ·cases e
  rcases S0 e with e|⟨p,hp,b',N,e1,e2⟩
  ·obtain⟨g0,l,c,e',fr,g1,g3,g4,g5⟩:=R.fz n b sh e;refine⟨g0,l,c,e',fr,g1,g3,fun m o N eg hg cz hr=>?_,fun i x hx=>by obtain⟨v,k1,k2,k3⟩:=g5 i x hx;exact⟨v,k1,VR.mono hle _ _ k2,k3⟩⟩;obtain⟨a1,_,o1,a3,a4,_⟩:=hh m o eg hg;exact g4 (r m) o1 N a1 a3 (a4.1 cz) (by have hr:marks fz ρ (r m)=_:=hr;rw[hm.2.1 _ a1] at hr;exact hr)
  ·obtain⟨rfl,rfl,rfl⟩:=Jq e2;obtain⟨z1,z2,N0,t,z,z3,z4⟩:=hz p hp;obtain⟨b1,N1,o',k1,k2,k3,k4⟩:=R.is p.1 _ z1 z3;rw[e1] at k1;cases k1;obtain⟨c,et,rfl,_,_,row⟩:=k3;refine⟨.inr<|k4 rfl,p.2.2,c,et,_,z2,k2,fun m o M eg hg cz hr=>?_,fun i x hx=>?_⟩
   ·obtain⟨a1,_,o1,a3,a4,_⟩:=hh m o eg hg;have hr:marks fz ρ (r m)=_:=hr;rw[hm.2.1 _ a1] at hr;exact tM p hp m o eg hg<|R.one (r m) p.1 o1 _ _ _ _ a1 z1 a3 z3 (.inl<|a4.1 cz) hr e1
   ·obtain⟨i1,i2,i3,i4⟩:=z4 i x hx;obtain⟨x',v,j1,j2,j3,j4⟩:=row i i1;rw[i2] at j1;cases j1;exact⟨v,by rw[Nat.zero_add];exact j3,VR.mono hle _ _<|i4 _ _ j4,i3⟩
 ·obtain⟨k0,H,k1,k2⟩:=R.tk;have hle:∀m x,top<=m->ρ m=some x->marks fz ρ (r m)=some x:=fun m x jW e=>by rw[Ci m jW];exact hm.1 _ _ e
  have tok:∀n k v,n<top->h2.get n=some (.tok k v)->r n<top/\h.get (r n)=some (.tok k v):=fun n k v hn hg=>by obtain⟨a1,_,o1,a3,a4,_⟩:=hh n _ hn hg;rw[a4.2.1 rfl] at a3;exact⟨a1,a3⟩
  refine⟨⟨k0.1,fun n o hn hg hf=>?_⟩,fun n=>H<|r n,fun n k v hn hg=>?_,fun n m x k v k' v' hn eg g1 g2 ct=>?_⟩
  ·obtain⟨a1,_,o1,a3,a4,a5⟩:=hh n o hn hg;obtain⟨b,N,e1,e2⟩:=k0.2 (r n) o1 a1 a3<|a4.2.2 hf;exact⟨b,N,(hm.2.1 _ a1).trans e1,e2⟩
  ·obtain⟨a1,a2⟩:=tok n k v hn hg;obtain⟨b,N,c1,c2,c3,c4⟩:=k1 (r n) k v a1 a2;refine⟨b,N,(hm.2.1 _ a1).trans c1,B.mono c2 hle fun _ _=>rfl,c3,fun x hx=>?_⟩;obtain⟨d1,d2,d3,d4⟩:=c4 x hx;refine⟨d1,d2,fun m o M eg l6 cz hr=>?_,fun j sh=>?_⟩
   ·obtain⟨e1,_,o1,e3,e4,_⟩:=hh m o eg l6;exact d3 (r m) o1 M e1 e3 (e4.1 cz) (by have hr:marks fz ρ (r m)=_:=hr;rw[hm.2.1 _ e1] at hr;exact hr)
   ·show marks fz ρ (r<|Rn.hn j x sh)=none;rw[Ci _<|fY _ _ _];refine Classical.byContradiction fun q=>?_;rcases S0 q with q|⟨p,hp,b',N',e1,e2⟩
    ·exact q<|d4 j sh
    ·obtain⟨_,rfl,_⟩:=Jq e2;obtain⟨z1,_,N0,t,z,z3,_⟩:=hz p hp;exact d3 p.1 _ N' z1 z3 rfl e1
  ·obtain⟨a1,a2⟩:=tok n k v hn g1;obtain⟨a3,a4⟩:=tok m k' v' eg g2;exact k2 (r n) (r m) x k v k' v' a1 a3 a2 a4 fun e=>ct<|Ea n m _ _ hn eg g1 g2 e
theorem au.weaken{t2:Tr AV}(fz:ng)(r:Nat->Nat)(h0:∀k,k<J->r k=k)(h1:∀k,s2.nx<=k->k<top->s.nx<=r k/\r k<top)(Ci:∀k,top<=k->r k=k)(hg:fM<=J)(hf2:bD s2)(hd:fr.defers=[])(hr:fr.round=none)(hz:∀p∈fz,Wd B.F s.h p)(ht:∀i y,t2.get i=some y->∃x,fr.tmps.get i=some x/\oM fz r x y)(hh:∀n o2,n<top->s2.h.get n=some o2->r n<top/\o2.pk=true/\∃o1,s.h.get (r n)=some o1/\gJ o1 o2/\iu fz r o1 o2)(tM:∀p∈fz,∀n o2,n<top->s2.h.get n=some o2->r n≠p.1)(Ea:∀n m o p,n<top->m<top->s2.h.get n=some o->s2.h.get m=some p->r n=r m->n=m)(H:au P B J Q {fr with tmps:=t2} s2):au P B J Q fr s:=by
 intro ρ w b a cs bS aB hf;have hm:=TK fz ρ;have nz:F1 (fun k=>marks fz ρ<|r k) fr.round b.roundOf:=by
  have:=bS.round;rw[hr] at this ⊢;cases hb:b.roundOf with
  |none=>trivial
  |some l=>rw[hb] at this;cases this
 have agI:vO (fun k=>marks fz ρ<|r k) fr.defers a.defers:=by have:=bS.defs;rw[hd] at this ⊢;exact this
 have cU:∀k,k<J->k<top->marks fz ρ (r k)=ρ k:=fun k hk gk=>by rw[h0 k hk];exact hm.2.1 k gk
 have agJ:gb fun k=>marks fz ρ<|r k:=fun g iA=>by obtain⟨N,e⟩:=aB.g g iA;exact⟨N,(cU g (Nat.lt_of_lt_of_le iA hg)<|Nat.lt_of_lt_of_le iA (by unfold fM top;decide)).trans e⟩
 have yk:TR (fun k=>marks fz ρ<|r k) fr.nt t2 a.tmps:=⟨aB.tr.1,fun i y hy=>by obtain⟨x,e1,e2⟩:=ht i y hy;exact e2 ρ _ _ hm<|aB.tr.2 i x e1⟩;obtain⟨jV,j,s3,τ,a2,w2,q0,qn,q1,Ht,q2,q3,q4,q5,q6,q7,q8,q9⟩:=H (fun k=>marks fz ρ<|r k) w b a cs ⟨bS.fn,bS.kind,nz,agI,bS.ok⟩ ⟨yk,aB.rel.aiI fz Ci hz hh tM Ea,agJ,aB.nt,hf2⟩ fun k hk ht=>(hm.2.1 _ (h1 k hk ht).2).trans<|hf _ (h1 k hk ht).1 (h1 k hk ht).2;exact⟨jV,j,s3,τ,a2,w2,q0,qn,fun k hk gk=>(q1 k hk gk).trans<|cU k hk gk,fun k x hk hx=>Ht k x hk (by show marks fz ρ (r k)=_;rw[Ci k hk];exact hm.1 _ _ hx),q2,q3,q4,q5,q6,q7,q8,q9⟩
end
end Go.Rn
namespace Go.Rn
open Go.RowKit
variable {i:Nat} {d:Option Tmp} {v:AV} {o:Oper}
noncomputable section
def aQ:List (Nat×AV)->Tr AV
 |[]=>.nil
 |p::l=>(aQ l).put p.1<|some p.2
def gd:List (Nat×Option ab)->Tr ab
 |[]=>.nil
 |p::l=>(gd l).put p.1 p.2
def ak(l:List<|Nat×Option ab)(nx:Nat):AS:=⟨gd l,nx,0,[],[]⟩
def VA(P:Program)(f:FuncId):Code:=
 match P.funcs[f]? with
 |none=>.skip
 |some fn=>match fn.body with
  |none=>.skip
  |some c=>c
def a9(P:Program)(f:FuncId)(p:List Nat):Code:=sS p<|VA P f
def opsOf:Code->Array Oper
 | .region _ ops _=>ops
 |_=> #[]
def po(P:Program)(YO:aK)(nt:Nat)(ops:Array Oper)(i n:Nat)(t:Tr AV):M<|Tr AV:=jj P YO nt ops ((ops.toList.drop i).take n) t
def xT(ops:Array Oper)(i:Nat):Option<|Op×Option Tmp×Option (Nat×Bool):=
 match ops[i]? with
 |none=>none
 |some o=>some (o.op,o.dst,o.guard)
end
section
variable {P:Program} {B:aL} {J:Nat} {Q:Tr AV->List Nat->Option Code->AS->Prop} {ρ:aw} {w:World} {s s1 s2:AS} {YO:aK} {t t1 t2:Tr AV} {ops:Array Oper} {nt:Nat}
theorem MF{l:List Oper}:jj P YO nt ops (o::l) t=(gN P YO nt ops o t).bind (jj P YO nt ops l):=rfl
theorem TL:∀{l1 l2:List Oper} {t t1:Tr AV} {s s1:AS},jj P YO nt ops l1 t s= .ok t1 s1->jj P YO nt ops (l1++l2) t s=jj P YO nt ops l2 t1 s1
 |[],l2,t,t1,s,s1,h=>by cases h;rfl
 |o::l1,l2,t,t1,s,s1,h=>by rw[MF] at h;obtain⟨t',s',h1,h2⟩:=M.aR h;show jj P YO nt ops (o::(l1++l2)) t s=_;rw[MF,M.bQ h1];exact TL h2
theorem Sk{n m:Nat}(h1:po P YO nt ops i n t s= .ok t1 s1)(h2:po P YO nt ops (i+n) m t1 s1= .ok t2 s2):po P YO nt ops i (n+m) t s= .ok t2 s2:=by unfold po at h1 h2 ⊢;rw[List.take_add,TL h1,List.drop_drop];exact h2
theorem Sl(ho:ops[i]? =some o)(h:gN P YO nt ops o t s= .ok t1 s1):po P YO nt ops i 1 t s= .ok t1 s1:=by
 unfold po;have:(ops.toList.drop i).take 1=[o]:=by
  have h1:ops.toList[i]? =some o:=by rw[Array.getElem?_toList];exact ho
  obtain⟨hi,e⟩:=List.getElem?_eq_some_iff.1 h1;rw[List.drop_eq_getElem_cons hi,e];rfl
 rw[this,MF,M.bQ h];rfl
theorem IF{op:Op}{g:Option<|Nat×Bool}(h:xT ops i=some (op,d,g)):∃o,ops[i]? =some o/\o.op=op/\o.dst=d/\o.guard=g:=by
 unfold xT at h;split at h
 ·cases h
 ·rename_i o e;injection h with h
  injection h with h1 h
  injection h with h2 h3
  exact⟨o,e,h1,h2,h3⟩
theorem cF{op:Op}(ho:xT ops i=some (op,d,none))(h:(dI P op).val YO t s= .ok v s1)(hp:ji nt t d v=some t1):po P YO nt ops i 1 t s= .ok t1 s1:=by obtain⟨o,e,rfl,rfl,e3⟩:=IF ho;refine Sl e ?_;unfold gN Bv;rw[e3];show sb (dI P o.op) o.dst YO nt t s=_;unfold sb;rw[M.bQ h,hp];rfl
theorem aiJ{op:Op}{g:Nat×Bool}(ho:xT ops i=some (op,d,some g))(hk:te ops t g.1=true)(hw:qg ops g t=true)(h:(dI P op).val YO t s= .ok v s1)(hp:ji nt t d v=some t1):po P YO nt ops i 1 t s= .ok t1 s1:=by obtain⟨o,e,rfl,rfl,e3⟩:=IF ho;refine Sl e ?_;unfold gN Bv;rw[e3];show tJ ops g (dI P o.op) o.dst YO nt t s=_;unfold tJ;rw[hk,hw,dC];show((dI P o.op).val YO t).bind (fun v=>lift<|ji nt t o.dst v) s=_;rw[M.bQ h,hp];rfl
theorem Mi:∀{l:List<|List AV} {K i:Nat} {c:List AV},(∀c∈l,c.length=K)->l[i]? =some c->(l.flatten.drop<|i*K).take K=c
 |[],_,_,_,_,h=>by simp at h
 |x::l,K,0,c,hl,h=>by simp at h;subst h;have hx:=hl x List.mem_cons_self;rw[Nat.zero_mul,List.drop_zero,List.flatten_cons,List.take_append,hx,Nat.sub_self,List.take_zero,List.append_nil, ←hx,List.take_length]
 |x::l,K,i+1,c,hl,h=>by have hx:=hl x List.mem_cons_self;rw[List.flatten_cons,List.drop_append,hx,show(i+1)*K - K=i*K by rw[Nat.add_mul,Nat.one_mul];omega,List.drop_eq_nil_of_le (by rw[hx,Nat.add_mul,Nat.one_mul];omega),List.nil_append];exact Mi (fun c hc=>hl c<|List.mem_cons_of_mem _ hc) (by simpa using h)
end
end Go.Rn
namespace Go.Rn
open Go.RowKit
section
variable {P:Program} {s s1:AS} {YO:aK} {t:Tr AV}
theorem ady{op:BinOp}{ty yt:TypeId}{x y:Operand}{k:IntKind}{a b:Int}{r:Bool}(hx:aI t x=some (.int k a))(hy:aI t y=some (.int k b))(hs:yM op=false)(hg:IU P op ty x y (.int k a) (.int k b)=true)(hr:DE op k a b=some (.bool r)):
 (dI P<|.binOp op ty x y yt).val YO t s= .ok (.bool r) s:=by
 show tV P op ty x y YO t s=_;unfold tV;rw[hx,hy,ch,ch,hg,dC];have:A7 P op ty (.int k a) (.int k b)=some (.bool r):=by unfold A7;simp only[hs,decide_true];exact hr
 rw[this];rfl
end
end Go.Rn
namespace Go.Rn
open Go.RowKit
section
variable {P:Program} {B:aL} {J:Nat} {Q:Tr AV->List Nat->Option Code->AS->Prop} {s s1 s2:AS} {YO:aK} {t t1 t2:Tr AV} {ops:Array Oper} {nt:Nat}
theorem adz{op:BinOp}{ty yt:TypeId}{x y:Operand}{k:IntKind}{a b:Int}{r:AV}(hx:aI t x=some (.int k a))(hy:aI t y=some (.int k b))(hs:yM op=false)(hg:IU P op ty x y (.int k a) (.int k b)=true)(hr:DE op k a b=some r):
 (dI P<|.binOp op ty x y yt).val YO t s= .ok r s:=by
 show tV P op ty x y YO t s=_;unfold tV;rw[hx,hy,ch,ch,hg,dC];have:A7 P op ty (.int k a) (.int k b)=some r:=by unfold A7;simp only[hs,decide_true];exact hr
 rw[this];rfl
noncomputable def tX(P:Program)(YO:aK)(nt:Nat)(ops:Array Oper)(i n:Nat)(t:Tr AV):M<|Tr AV×List dx:=mZ P YO nt ops ((ops.toList.drop i).take n) i t
theorem S2:∀{l1 l2:List Oper} {i:Nat} {t t1 t2:Tr AV} {m1 m2:List dx} {s s1 s2:AS},mZ P YO nt ops l1 i t s= .ok (t1,m1) s1->mZ P YO nt ops l2 (i+l1.length) t1 s1= .ok (t2,m2) s2->mZ P YO nt ops (l1++l2) i t s= .ok (t2,m1++m2) s2
 |[],l2,i,t,t1,t2,m1,m2,s,s1,s2,h,k=>by cases h;exact k
 |o::l1,l2,i,t,t1,t2,m1,m2,s,s1,s2,h,k=>by
  have h':((alone i<|gN P YO nt ops o t).bind fun x=>(mZ P YO nt ops l1 (i+1) x.1).bind fun y=>M.pure (y.1,x.2::y.2)) s= .ok (t1,m1) s1:=h;obtain⟨x,sx,e1,e2⟩:=M.aR h';obtain⟨y,sy,e3,e4⟩:=M.aR e2;obtain⟨e5,rfl⟩:=bK e4;injection e5 with e6 e7
  subst e6;subst e7;have:=S2 (i:=i+1) e3 (by rw[show i+1+l1.length=i+(o::l1).length by simp;omega];exact k);show((alone i<|gN P YO nt ops o t).bind fun x=>(mZ P YO nt ops (l1++l2) (i+1) x.1).bind fun y=>M.pure (y.1,x.2::y.2)) s=_;rw[M.bQ e1,M.bQ this];rfl
theorem TM{i n m N:Nat}{m1 m2:List dx}(hN:ops.size=N)(hi:i+n<=N)(h1:tX P YO nt ops i n t s= .ok (t1,m1) s1)(h2:tX P YO nt ops (i+n) m t1 s1= .ok (t2,m2) s2):tX P YO nt ops i (n+m) t s= .ok (t2,m1++m2) s2:=by unfold tX at h1 h2 ⊢;rw[List.take_add,List.drop_drop];refine S2 h1 ?_;rw[List.length_take,List.length_drop,Array.length_toList,hN,Nat.min_eq_left aj];exact h2
theorem FE:∀{l:List<|Nat×AV} {i:Nat} {y:AV},(∀p∈l,p.1<top)->(aQ l).get i=some y->(i,y)∈l
 |[],i,y,_,h=>by have:(Tr.nil:Tr AV).get i=some y:=h;rw[Tr.get_nil] at this;cases this
 |p::l,i,y,hl,h=>by
  have h':((aQ l).put p.1<|some p.2).get i=some y:=h;rw[Tr.lM _ _ _ _<|hl p List.mem_cons_self] at h';by_cases e:i=p.1
  ·rw[if_pos e] at h';injection h' with h';subst h';subst e;exact List.mem_cons_self
  ·rw[if_neg e] at h';exact List.mem_cons_of_mem _<|FE (fun q hq=>hl q<|List.mem_cons_of_mem _ hq) h'
theorem wR:∀{l:List<|Nat×Option ab} {i:Nat} {y:ab},(∀p∈l,p.1<top)->(gd l).get i=some y->(i,some y)∈l
 |[],i,y,_,h=>by have:(Tr.nil:Tr ab).get i=some y:=h;rw[Tr.get_nil] at this;cases this
 |p::l,i,y,hl,h=>by
  have h':((gd l).put p.1 p.2).get i=some y:=h;rw[Tr.lM _ _ _ _<|hl p List.mem_cons_self] at h';by_cases e:i=p.1
  ·rw[if_pos e] at h';have:p=(i,some y):=by rw[e, ←h']
   rw[←this];exact List.mem_cons_self
  ·rw[if_neg e] at h';exact List.mem_cons_of_mem _<|wR (fun q hq=>hl q<|List.mem_cons_of_mem _ hq) h'
theorem bw.same(x:AV):bw (fun k=>k) x x:=fun _ _ h=>h
theorem mu.same(x:ab):mu (fun k=>k) x x:=fun _ _ _ h=>h
def xE(t:Tr AV):List (Nat×AV)->Prop
 |[]=>True
 |p::l=>t.get p.1=some p.2/\xE t l
def xU(h:Tr ab):List (Nat×Option ab)->Prop
 |[]=>True
 |p::l=>(h.get p.1=p.2/\∀o,p.2=some o->o.pk=true)/\xU h l
theorem xE.mem{t:Tr AV}:∀{l:List<|Nat×AV},xE t l->∀p∈l,t.get p.1=some p.2
 |[],_,p,hp=>by cases hp
 |q::l,h,p,hp=>by
  rcases List.mem_cons.1 hp with rfl|hp
  ·exact h.1
  ·exact xE.mem h.2 p hp
theorem xU.mem{h:Tr ab}:∀{l:List<|Nat×Option ab},xU h l->∀p∈l,h.get p.1=p.2/\∀o,p.2=some o->o.pk=true
 |[],_,p,hp=>by cases hp
 |q::l,k,p,hp=>by
  rcases List.mem_cons.1 hp with rfl|hp
  ·exact k.1
  ·exact xU.mem k.2 p hp
def pH{α:Type}(n:Nat):List (Nat×α)->Bool
 |[]=>true
 |p::l=>Nat.blt p.1 n&&pH n l
theorem wT{α:Type}{n:Nat}:∀{l:List<|Nat×α},pH n l=true->∀p∈l,p.1<n
 |[],_,p,hp=>by cases hp
 |q::l,h,p,hp=>by
  obtain⟨h1,h2⟩:=and_true.1 h;rcases List.mem_cons.1 hp with rfl|hp
  ·exact(blt_eq _ _).mp h1
  ·exact wT h2 p hp
theorem au.less{f:FuncId}{K:List Item}{l:List<|Nat×AV}{o:List<|Nat×Option ab}{nx:Nat}(hl:pH top l=true)(ho:pH top o=true)(hn:(Nat.ble s.nx nx&&Nat.ble nx top)=true)(hg:fM<=J)(ht:xE t l)(hh:xU s.h o)(H:au P B J Q ⟨f,aQ l,nt,K,[],none⟩<|ak o nx):au P B J Q ⟨f,t,nt,K,[],none⟩ s:=by
 obtain⟨uo,o6⟩:=and_true.1 hn;have uo:=aM.1 uo;have o6:=aM.1 o6;refine au.weaken (s2:=ak o nx) (t2:=aQ l) [] (fun k=>k) (fun _ _=>rfl) (fun k hk ht=>⟨Nat.le_trans uo hk,ht⟩) (fun _ _=>rfl) hg ⟨Nat.zero_le _,o6⟩ rfl rfl (fun _ h=>by cases h) (fun i y hy=>?_) (fun n o2 hn hg=>?_) (fun _ h=>by cases h) (fun n m _ _ _ _ _ _ e=>e) H
 ·have:=FE (fun p hp=>wT hl p hp) hy;exact⟨y,ht.mem _ this,(bw.same y).z⟩
 ·have:=wR (fun p hp=>wT ho p hp) hg;obtain⟨h1,h2⟩:=hh.mem _ this;exact⟨hn,h2 o2 rfl,o2,h1,gJ.refl _,(mu.same o2).z⟩
end
end Go.Rn
namespace Go.Rn
open Go.RowKit
section
variable {P:Program} {s s1:AS} {YO:aK} {t:Tr AV}
theorem Ma{l z:List AV}(hl:l.length<=top):∀(k off:Nat),off+k<=l.length->lp (Tr.fill l 0 .nil) z k off=some ((l.drop off).take k)
 |0,off,_=>by simp[lp]
 |k+1,off,h=>by
  have bB:off<l.length:=by omega
  have hc:cellAt (Tr.fill l 0 .nil) z off=some l[off]:=by unfold cellAt;rw[Tr.sO _ _ _ _ aj,if_pos aj,Nat.sub_zero,List.getElem?_eq_getElem bB]
  simp only[lp,hc,Ma hl k (off+1) aj];rw[List.drop_eq_getElem_cons bB,List.take_succ_cons]
noncomputable def aN{α:Type}(enc:α->List AV)(l:List α):ab:=.cells (l.map enc).flatten.length (Tr.fill (l.map enc).flatten 0 .nil) []
theorem adA{o:ab}(ht:s.nx<top):fu o s= .ok s.nx {s with h:=s.h.put s.nx<|some o,nx:=s.nx+1}:=by
 obtain⟨hh,nx,mark,rd,wr⟩:=s;have e1:Nat.blt nx top=true:=by rw[blt_eq];exact ht
 show @Bool.rec (fun _=>R Nat) .bad (forced nx fun m=>.ok m ⟨hh.put m<|some o,m+1,mark,rd,wr⟩) (Nat.blt nx top)=_;rw[e1,yH]
theorem Iq{l:List AV}(hl:l.length<=top)(h1:l.all AV.cf=true)(ht:s.nx<top):newRow l s= .ok s.nx {s with h:=s.h.put s.nx<|some<|.cells l.length (Tr.fill l 0 .nil) [],nx:=s.nx+1}:=by unfold newRow;rw[show(and (Nat.ble l.length top)<|l.all AV.cf)=true from and_true.2 ⟨aM.2 hl,h1⟩,dC];exact adA ht
end
end Go.Rn
namespace Go.Rn
open Go.RowKit
end Go.Rn
namespace Go.Rn
open Go.RowKit
noncomputable section
def da(m:List<|Int×Int):List<|AV×AV:=m.map fun p=>(.int .i64 p.1,.int .i64 p.2)
def GL(m:List<|Int×Int):ab:=.map (da m) m.length
end
def getM:List (Int×Int)->Int->Int
 |[],_=>0
 |p::l,k=>if p.1=k then p.2 else getM l k
def gA:List (Int×Int)->Int->Int->List (Int×Int)
 |[],k,v=>[(k,v)]
 |p::l,k,v=>if p.1=k then(k,v)::l else p::gA l k v
section
variable {P:Program} {s s1:AS} {YO:aK} {t:Tr AV}
theorem TN(a b:Int):sameKey (.int .i64 a) (.int .i64 b)=some (a == b):=rfl
theorem TO(k:Int):∀(m:List<|Int×Int) (i:Nat),(kI (.int .i64 k) (da m) i=some none/\getM m k=0/\∀v,gA m k v=m++[(k,v)])\/
 ∃j y,kI (.int .i64 k) (da m) i=some (some (i+j,.int .i64 y))/\getM m k=y/\m[j]? =some (k,y)/\∀v,putAt (da m) j (.int .i64 k) (.int .i64 v)=da (gA m k v)/\(gA m k v).length=m.length
 |[],i=>.inl ⟨rfl,rfl,fun _=>rfl⟩
 |p::l,i=>by
  have hf:kI (.int .i64 k) (da<|p::l) i=(match some (k == p.1) with|none=>none|some true=>some (some (i,.int .i64 p.2))|some false=>kI (.int .i64 k) (da l)<|i+1):=rfl;by_cases e:p.1=k
  ·refine .inr ⟨0,p.2,?_,?_,?_,fun v=>⟨?_,?_⟩⟩
   ·rw[hf,show(k == p.1)=true by simp[e]];rfl
   ·simp[getM,e]
   ·simp[←e]
   ·simp[gA,e,da,putAt]
   ·simp[gA,e]
  ·have ct:(k == p.1)=false:=by simp;exact fun q=>e q.symm
   rcases TO k l (i+1) with⟨h1,h2,h3⟩|⟨j,y,h1,h2,h3,h4⟩
   ·refine .inl ⟨?_,?_,fun v=>?_⟩
    ·rw[hf,ct];exact h1
    ·simp[getM,e,h2]
    ·simp[gA,e,h3 v]
   ·refine .inr ⟨j+1,y,?_,?_,?_,fun v=>⟨?_,?_⟩⟩
    ·rw[hf,ct];show kI _ _ _=_;rw[h1];congr 3;omega
    ·simp[getM,e,h2]
    ·simpa using h3
    ·have:=(h4 v).1;simp only[gA,e,if_false];show(_:AV×AV)::putAt (da l) j _ _=_::da (gA l k v);rw[this]
    ·simp[gA,e,(h4 v).2]
end
end Go.Rn
namespace Go.Rn
open Go.RowKit
section
variable {r:Nat->Nat}
theorem bw.int(k:IntKind)(n:Int):bw r (.int k n)<|.int k n:=fun _ _ h=>h
theorem bw.bool(b:Bool):bw r (.bool b)<|.bool b:=fun _ _ h=>h
theorem bw.acb:bw r (.slice none 0<|.known 0)<|.slice none 0<|.known 0:=fun _ _ h=>h
theorem bw.ptr{n m o:Nat}(e:r m=n):bw r (.ptr<|some (n,o))<|.ptr<|some (m,o):=by intro ρ v h;simp only[VR] at h ⊢;rw[e];exact h
theorem bw.map{n m:Nat}(e:r m=n):bw r (.map<|some n)<|.map<|some m:=by intro ρ v h;simp only[VR] at h ⊢;rw[e];exact h
theorem bw.slice{n m o len:Nat}{c:cC}(e:r m=n):bw r (.slice (some (n,o)) len c)<|.slice (some (m,o)) len c:=by intro ρ v h;cases c<;>simp only[VR] at h ⊢ <;>rw[e]<;>exact h
theorem bw.U{n o len:Nat}(e:r n=n)(hr:∀k,top<=k->r k=k):bw r (.U n o len)<|.U n o len:=by intro ρ v h;simp only[VR] at h ⊢;refine h.imp id fun⟨b,sh,c,h1,h2⟩=>⟨b,sh,c,h1.imp (fun q=>⟨q.1,(congrArg ρ e).trans q.2⟩) fun q=>⟨q.1,fun z=>q.2<|(congrArg ρ<|hr _<|fY _ _ _).symm.trans z⟩,h2⟩
def AV.flat:AV->Bool
 | .bool _| .int _ _| .str _| .Ko _=>true
 | .ptr none| .map none| .nilFunc| .nilIface=>true
 | .slice none _ (.known _)=>true
 |_=>false
theorem bw.flat{x:AV}(h:x.flat=true):bw r x x:=by
 intro ρ v k;cases x<;>first|exact k|skip
 case slice a len cap=>cases a with
  |some _=>cases h
  |none=>cases cap with
   |known c=>simp only[VR] at k ⊢;exact k
   |aq _ _=>cases h
   |lost=>cases h
 all_goals first|(cases h;done)|skip
 all_goals
  rename_i a;cases a with
  |none=>exact k
  |some _=>cases h
def oO(r:Nat->Nat):List AV->List AV->Prop
 |[],[]=>True
 |x::l,y::m=>bw r x y/\oO r l m
 |_,_=>False
theorem oO.length:∀{l m:List AV},oO r l m->l.length=m.length
 |[],[],_=>rfl
 |_::_,_::_,h=>by simp[oO.length h.2]
 |[],_::_,h=>by cases h
 |_::_,[],h=>by cases h
theorem oO.ah:∀{l m:List AV} {i:Nat} {x y:AV},oO r l m->l[i]? =some x->m[i]? =some y->bw r x y
 |x::l,y::m,0,a,b,h,h1,h2=>by simp at h1 h2;subst h1;subst h2;exact h.1
 |x::l,y::m,i+1,a,b,h,h1,h2=>oO.ah h.2 (by simpa using h1) (by simpa using h2)
 |[],[],_,_,_,_,h1,_=>by simp at h1
 |_::_,[],_,_,_,h,_,_=>by cases h
 |[],_::_,_,_,_,h,_,_=>by cases h
theorem oO.flat:∀{l:List AV},l.all AV.flat=true->oO r l l
 |[],_=>trivial
 |x::l,h=>by obtain⟨h1,h2⟩:=and_true.1 (show(x.flat&&l.all AV.flat)=true from h);exact⟨bw.flat h1,oO.flat h2⟩
theorem mu.cells{l m:List AV}(hl:l.length<=top)(h:oO r l m)(h1:m.all AV.cf=true):mu r (.cells l.length (Tr.fill l 0 .nil) [])<|.cells m.length (Tr.fill m 0 .nil) []:=by
 have hlen:=h.length;intro ρ N o k;obtain⟨c,e,rfl,k1,k2,k3⟩:=k;refine⟨c,e,rfl,k1,by omega,fun i hi=>?_⟩;obtain⟨x,v,a1,a2,a3,a4⟩:=k3 i aj;have hx:l[i]? =some x:=by unfold cellAt at a1;rw[Tr.sO _ _ _ _ aj,if_pos aj,Nat.sub_zero,List.getElem?_eq_getElem aj] at a1;rw[List.getElem?_eq_getElem aj];exact a1
 have hy:m[i]? =some m[i]:=List.getElem?_eq_getElem hi;refine⟨m[i],v,?_,?_,a3,h.ah hx hy ρ v a4⟩
 ·unfold cellAt;rw[Tr.sO _ _ _ _ aj,if_pos aj,Nat.sub_zero,hy]
 ·exact List.all_eq_true.1 h1 _<|List.getElem_mem hi
theorem mu.aN{α:Type}{enc:α->List AV}{l:List α}(he:∀x,(enc x).all AV.flat=true/\(enc x).all AV.cf=true)(hl:(l.map enc).flatten.length<=top):mu r (aN enc l)<|aN enc l:=by
 have hf:∀(p:AV->Bool),(∀x,(enc x).all p=true)->∀l:List α,(l.map enc).flatten.all p=true:=by
  intro p hp l;induction l with
  |nil=>rfl
  |cons x l ih=>simp only[List.map_cons,List.flatten_cons,List.all_append,ih,hp x,Bool.and_true]
 exact mu.cells hl (oO.flat<|hf _ (fun x=>(he x).1) l)<|hf _ (fun x=>(he x).2) l
def agK(r:Nat->Nat)(h:Tr ab):List (Nat×ab)->Prop
 |[]=>True
 |p::l=>(p.2.plain=true/\∃x,h.get (r p.1)=some x/\(x.dm=p.2.dm/\x.mL=p.2.mL)/\mu r x p.2)/\agK r h l
def bx:List (Nat×ab)->List (Nat×Option ab)
 |[]=>[]
 |p::l=>(p.1,some p.2)::bx l
theorem MG:∀{l:List<|Nat×ab} {i:Nat} {y:ab},(i,some y)∈bx l->(i,y)∈l
 |p::l,i,y,h=>by
  rcases List.mem_cons.1 h with h|h
  ·injection h with h1 h2
   injection h2 with h2
   have:p=(i,y):=by rw[h1,h2]
   rw[←this];exact List.mem_cons_self
  ·exact List.mem_cons_of_mem _<|MG h
variable {P:Program} {B:aL} {Q:Tr AV->List Nat->Option Code->AS->Prop} {s:AS} {t:Tr AV} {nt:Nat}
end
end Go.Rn
namespace Go.Rn
end Go.Rn
namespace Go.Rn
open Go.RowKit
noncomputable section
end
section
variable {P:Program} {s s1:AS} {YO:aK} {t:Tr AV}
end
end Go.Rn
namespace Go.Rn
open Go.RowKit
noncomputable section
def Fin(P:Program)(rs:List ResultVar)(R:AV->AS->Prop):Tr AV->List Nat->Option Code->AS->Prop:=fun t d j s=>∃x s3,finish P rs ⟨0,t,0,[],d,none⟩ j s= .ok x s3/\R x s3
end
section
variable {P:Program} {B:aL} {ρ:aw} {w:World} {s s1:AS} {YO:aK}
theorem Fl(rs:List ResultVar)(fr:AF)(j:Option Code):finish P rs fr j=finish P rs ⟨0,fr.tmps,0,[],fr.defers,none⟩ j:=rfl
theorem au.calls(hP:bE P){g:FuncId}{fn:Func}{body:Code}{args:List AV}{vs:Array Value}{R:AV->AS->Prop}(cq:P.funcs[g]? =some fn)(cx:fn.body=some body)(oX:max fn.ntmps args.length<=top)(H:au P B s.nx (Fin P fn.results.toList R) ⟨g,ep args,max fn.ntmps args.length,[.code body],[],none⟩ s)(fi:bD s)(r:Rel B ρ s.h w)(hg:gb ρ)(hf:∀k,s.nx<=k->k<top->ρ k=none)(hv:aA ρ args vs.toList):
 Calls P g vs w fun e w'=>∃v x s3,e= .returned v/\R x s3/\s.nx<=s3.nx/\bD s3/\j8 B ρ s s3 w x v w':=by
 intro cs;let b:Frame:={(default:Frame) with fn:=g,kind:=.normal,roundOf:=none};let a:Act:={tmps:=vs++Array.replicate (fn.ntmps - vs.size) undef,defers:=[]};have th:Frame.enter P g vs .normal=b.atR a [.code body]:=by simp[Frame.enter,Frame.atR,cq,cx,b,a]
 have bS:Fr ρ ⟨g,ep args,max fn.ntmps args.length,[.code body],[],none⟩ b a:=⟨rfl,rfl,trivial,rfl,.cons (hP.code g fn body cq cx) .nil⟩;have aB:At B ρ s (max fn.ntmps args.length) (ep args) w a:=⟨HT hv _ oX,r,hg,oX,fi⟩;obtain⟨fr,j,s2,σ,a',w',⟨x,s3,pG,hR⟩,en,e0,Hu,e1,e2,e3,e4,e5,e6,e7,e8⟩:=H ρ w b a cs bS aB hf;have Pd:finish P fn.results.toList fr j s2= .ok x s3:=by rw[Fl];exact pG
 have z9:bD s2:=e2.cO;have aiK:Ext s.nx s2.nx ρ σ:=by
  refine⟨fun k y hk=>?_,fun k gk hk=>?_⟩
  ·by_cases qt:k<top
   ·by_cases q:s.nx<=k
    ·rw[hf k q qt] at hk;cases hk
    ·rw[e0 k aj qt];exact hk
   ·exact Hu k y aj hk
  ·by_cases q:k<s.nx
   ·exact e0 k q gk
   ·rw[e1 k aj gk,hf k aj gk]
 obtain⟨hj,u2,s4,rs,h7,h9,hx⟩:=H9 Pd;have mV:bD s4:=(YN.oq _).cO z9 h7;have np:Leaves j fr.todo:=e7;obtain⟨d1,d2,w2,d3,d4,d5⟩:=Fa (P:=P) (fr:=b) (cs:=cs) z9 e2.rel e3 h7;obtain⟨f1,f2,us,f3,f4⟩:=E9 (P:=P) (w:=w2) e2.tr mV d3 h9;have lG:bD s3:=(YN.qc P fr.tmps _).cO mV h9;have BI:Steps P (lone (b.atR a' fr.todo) cs w')<|lone {b.atR a' fr.todo with mode:=.returning} cs w':=by
  rcases hj with rfl|rfl
  ·have e:fr.todo=[]:=np;rw[e];exact .one<|stepR_end rfl
  ·obtain⟨k,e⟩:=np;rw[e];exact .one<|stepR_ret rfl
 have tM:=d5 {b.atR a' fr.todo with mode:=.returning} cs iH rfl;have kv:(results fn a'.tmps).run P w2= .ok (mg us) w2:=by
  unfold results;rw[Array.mapM_eq_mapM_toList];simp only[Sem.run_bind,map_eq_pure_bind,Sem.run_pure];refine Eq.trans (congrArg (fun r:Result (List Value)=>(r.andThen fun a w'=>Result.ok a.toArray w').andThen fun a w'=>Result.ok (if h:a.size=1 then a[0] else Value.tuple a) w') f3) ?_;have:∀l:List Value,(Result.ok (if h:l.toArray.size=1 then l.toArray[0] else Value.tuple l.toArray) w2:Result Value)= .ok (mg l) w2:=by
   intro l
   match l with
   |[]=>rfl
   |[v]=>rfl
   |v::v2::l=>simp[mg]
  exact this us
 have XM:s3.nx=s2.nx:=by rw[f2,d1]
 have hle:s.nx<=s3.nx:=by rw[XM];exact en
 refine⟨.returned<|mg us,w2,{b.atR a' fr.todo with mode:=.returning,defers:=[]},⟨_,x,s3,rfl,hR,hle,lG,?_⟩,?_,rfl,?_⟩
 ·exact⟨σ,by rw[XM];exact aiK,by rw[hx];exact Io f4,by rw[f1];exact d3,e4.trans d4⟩
 ·rw[th];exact Steps.trans e8<|Steps.trans BI tM
 ·exact⟨rfl,rfl,rfl,fn,cq,kv⟩
end
end Go.Rn
namespace Go.Rn
variable {P:Program} {YO:aK} {nt:Nat} {ops:Array Oper} {t t1:Tr AV}
theorem uH{P:Program}{w:World}{f:FuncId}{fn:Func}{body:Code}{vs:Array Value}(cq:P.funcs[f]? =some fn)(cx:fn.body=some body)(dL:(fn.name == "runtime.NumGoroutine")=false):(callFunc f vs).run P w= .ok (.enter f vs) w:=by
 have Gn:(program).run P w= .ok P w:=rfl;have hn:fn.name≠ "runtime.NumGoroutine" :=by simpa using dL
 simp only[callFunc,Sem.run_bind,Gn,Result.andThen_ok,cq,dL,cx];simp
theorem sL{K:Nat}:∀{l:List<|List AV},(∀c∈l,c.length=K)->l.flatten.length=l.length*K
 |[],_=>by simp
 |c::l,h=>by rw[List.flatten_cons,List.length_append,h c List.mem_cons_self,sL fun c' h'=>h c'<|List.mem_cons_of_mem _ h',List.length_cons,Nat.add_mul,Nat.one_mul];omega
theorem afh{s:AS}{ty yt:TypeId}{x y:Operand}{k:IntKind}{a b c:Int}(hx:aI t x=some (.int k a))(hy:aI t y=some (.int k b))(h0:b≠0)(h:a.tmod b=c):(dI P<|.binOp .rem ty x y yt).val YO t s= .ok (.int k c) s:=adz hx hy rfl rfl (by subst h;simp only[DE,decide_eq_false h0])
end Go.Rn
namespace Go.Rn
open Go.RowKit
section
variable {P:Program} {YO:aK} {nt:Nat} {ops:Array Oper} {t t1:Tr AV}
end
noncomputable section
end
end Go.Rn
namespace Go.Rn
open Go.RowKit
variable {t1:Tr AV} {g:Option<|Nat×Bool} {d:Option Tmp} {v:AV} {id:Nat} {c:Code}
noncomputable section
instance:Inhabited<|Tr AV:=⟨.nil⟩
def Chunk(P:Program)(YO:aK)(G:AF->AS->Prop):Prop:=∀(k:Nat) (fr aV:AF) (s s1:AS),dZ P YO k fr s= .ok (.go aV) s1->G aV s1->G fr s
def Ev(P:Program)(YO:aK)(R:AF->Option Code->AS->Prop)(fr:AF)(s:AS):Prop:=∃k aV j s1,dZ P YO k fr s= .ok (.leave aV j) s1/\R aV j s1
def zG(P:Program)(B:aL)(J:Nat)(Q:Tr AV->List Nat->Option Code->AS->Prop)(fr:AF)(s:AS):Prop:=J<=s.nx->au P B J Q fr s
def xV(P:Program)(YO:aK)(G:AF->AS->Prop)(f nt:Nat)(K:List Item)(ops:Array Oper)(i:Nat)(t:Tr AV)(s:AS):Prop:=∃t1 s1,po P YO nt ops i (ops.size - i) t s= .ok t1 s1/\G ⟨f,t1,nt,K,[],none⟩ s1
def qF(P:Program)(YO:aK)(G:AF->AS->Prop)(f nt:Nat)(K:List Item)(ops:Array Oper)(acc:List dx)(i:Nat)(t:Tr AV)(s:AS):Prop:=∃t1 ms s1,tX P YO nt ops i (ops.size - i) t s= .ok (t1,ms) s1/\qq (Region.before ops) (acc++ms) (acc++ms)=true/\G ⟨f,t1,nt,K,[],none⟩ s1
def GM:Tr ab->List (Nat×Option ab)->Tr ab
 |t,[]=>t
 |t,p::l=>GM (t.put p.1 p.2) l
def Jv(s:AS):AS:=⟨s.h,s.nx,s.nx,[],[]⟩
def DM(s s1:AS):AS:=⟨s1.h,s1.nx,s.mark,below s.mark s1.rd++s.rd,below s.mark s1.wr++s.wr⟩
def KD(i:Nat)(s s1:AS):dx:=⟨i,below s.nx s1.rd,below s.nx s1.wr,s.nx,s1.nx⟩
end
section
variable {P:Program} {B:aL} {J:Nat} {Q:Tr AV->List Nat->Option Code->AS->Prop} {s s1:AS} {YO:aK} {t:Tr AV} {ops:Array Oper} {f nt i:Nat} {K:List Item} {G:AF->AS->Prop} {acc:List dx}
theorem Chunk.EH(bY:P.follows .mixedOrders=true)(hc:fP P B YO)(hl:∀t a,YN<|YO t a):Chunk P YO<|zG P B J Q:=by intro k fr aV s s1 h H h0 ρ w b a cs bS aB hf;have le:=(YN.dZ P hl k fr).le aB.cO h;exact au.chunk bY hc hl h h0 (H<|Nat.le_trans h0 le) ρ w b a cs bS aB hf
theorem S3:∀{k m:Nat} {fr aV:AF} {s s1:AS},dZ P YO k fr s= .ok (.go aV) s1->dZ P YO (k+m) fr s=dZ P YO m aV s1
 |0,m,fr,aV,s,s1,h=>by cases h;rw[Nat.zero_add]
 |k+1,m,fr,aV,s,s1,h=>by
  obtain⟨y,s2,h1,h2⟩:=M.aR (show((jf P YO fr).bind fun x=> @bt.rec (fun _=>M bt) (dZ P YO k) (fun fr j=>M.pure<|.leave fr j) x) s= .ok _ s1 from h);cases y with
  |go nX=>rw[show k+1+m=(k+m)+1 by omega,AT h1];exact S3 h2
  |leave nX j'=>cases h2
theorem Chunk.ev{R:AF->Option Code->AS->Prop}:Chunk P YO<|Ev P YO R:=by intro k fr aV s s1 h ⟨m,jV,j,s2,h1,h2⟩;exact⟨k+m,jV,j,s2,by rw[S3 h];exact h1,h2⟩
theorem Chunk.z7(hG:Chunk P YO G)(DL:c= .region id (opsOf c) false)(H:xV P YO G f nt K (opsOf c) 0 t s):G ⟨f,t,nt,.code c::K,[],none⟩ s:=by
 obtain⟨t1,s1,h,H⟩:=H;refine hG 1 _ _ _ s1 (AT ?_) H;have ht:((opsOf c).toList.drop 0).take ((opsOf c).size - 0)=(opsOf c).toList:=by rw[List.drop_zero,Nat.sub_zero, ←Array.length_toList,List.take_length]
 unfold po at h;rw[ht] at h;rw[DL];show((jj P YO nt (opsOf c) (opsOf c).toList t).bind fun t=>M.pure<|bt.go ⟨f,t,nt,K,[],none⟩) s=_;rw[M.bQ h];rfl
theorem Chunk.aiL(hG:Chunk P YO G)(DL:c= .region id (opsOf c) true)(H:qF P YO G f nt K (opsOf c) [] 0 t s):G ⟨f,t,nt,.code c::K,[],none⟩ s:=by
 obtain⟨t1,ms,s1,h,hm,H⟩:=H;rw[List.nil_append] at hm;refine hG 1 _ _ _ s1 (AT ?_) H;have ht:((opsOf c).toList.drop 0).take ((opsOf c).size - 0)=(opsOf c).toList:=by rw[List.drop_zero,Nat.sub_zero, ←Array.length_toList,List.take_length]
 unfold tX at h;rw[ht] at h;rw[DL];show((qd P YO nt (opsOf c) t).bind fun t=>M.pure<|bt.go ⟨f,t,nt,K,[],none⟩) s=_;have:qd P YO nt (opsOf c) t s= .ok t1 s1:=by unfold qd;rw[M.bQ h];show aH (qq (Region.before<|opsOf c) ms ms) (M.pure t1) s1=_;rw[hm,dC];rfl
 rw[M.bQ this];rfl
theorem xV.done(h:Nat.ble ops.size i=true)(H:G ⟨f,t,nt,K,[],none⟩ s):xV P YO G f nt K ops i t s:=by refine⟨t,s,?_,H⟩;rw[show ops.size - i=0 by have:=aM.1 h;omega];unfold po;rw[List.take_zero];rfl
theorem qF.done(h:(Nat.ble ops.size i&&qq (Region.before ops) acc acc)=true)(H:G ⟨f,t,nt,K,[],none⟩ s):qF P YO G f nt K ops acc i t s:=by obtain⟨h1,h2⟩:=and_true.1 h;refine⟨t,[],s,?_,by rw[List.append_nil];exact h2,H⟩;rw[show ops.size - i=0 by have:=aM.1 h1;omega];unfold tX;rw[List.take_zero];rfl
theorem xV.step(hn:Nat.blt i ops.size=true)(h:po P YO nt ops i 1 t s= .ok t1 s1)(H:xV P YO G f nt K ops (i+1) t1 s1):xV P YO G f nt K ops i t s:=by obtain⟨t2,s2,h1,h2⟩:=H;have bB:=(blt_eq _ _).mp hn;refine⟨t2,s2,?_,h2⟩;rw[show ops.size - i=1+(ops.size - (i+1)) by omega];exact Sk h h1
theorem qF.step{ms:List dx}(hn:Nat.blt i ops.size=true)(h:tX P YO nt ops i 1 t s= .ok (t1,ms) s1)(H:qF P YO G f nt K ops (acc++ms) (i+1) t1 s1):qF P YO G f nt K ops acc i t s:=by obtain⟨t2,ms2,s2,h1,h2,h3⟩:=H;have bB:=(blt_eq _ _).mp hn;refine⟨t2,_,s2,?_,by rw[←List.append_assoc];exact h2,h3⟩;rw[show ops.size - i=1+(ops.size - (i+1)) by omega];exact TM rfl aj h h1
theorem UG{op:Op}(h:xT ops i=some (op,d,g)):Nat.blt i ops.size=true:=by obtain⟨o,e,_⟩:=IF h;rw[blt_eq];exact(Array.getElem?_eq_some_iff.1 e).1
noncomputable def J6(ops:Array Oper)(g:Option<|Nat×Bool)(t:Tr AV):Bool:=
 match g with
 |none=>true
 |some g=>te ops t g.1&&qg ops g t
theorem afi{op:Op}(ho:xT ops i=some (op,d,g))(hw:J6 ops g t=true)(h:(dI P op).val YO t s= .ok v s1)(hp:ji nt t d v=some t1):po P YO nt ops i 1 t s= .ok t1 s1:=by
 cases g with
 |none=>exact cF ho h hp
 |some g=>obtain⟨h1,h2⟩:=and_true.1 (show(te ops t g.1&&qg ops g t)=true from hw);exact aiJ ho h1 h2 h hp
theorem adB{op:Op}(ho:xT ops i=some (op,d,g))(hw:J6 ops g t=true)(h:(dI P op).val YO t (Jv s)= .ok v s1)(hp:ji nt t d v=some t1):tX P YO nt ops i 1 t s= .ok (t1,[KD i s s1]) (DM s s1):=by
 obtain⟨o,e,rfl,rfl,e3⟩:=IF ho;unfold tX;have hl:(ops.toList.drop i).take 1=[o]:=by
  have h1:ops.toList[i]? =some o:=by rw[Array.getElem?_toList];exact e
  obtain⟨hi,e⟩:=List.getElem?_eq_some_iff.1 h1;rw[List.drop_eq_getElem_cons hi,e];rfl
 rw[hl];have ha:gN P YO nt ops o t (Jv s)= .ok t1 s1:=by
  unfold gN Bv;rw[e3];cases g with
  |none=>show sb (dI P o.op) o.dst YO nt t _=_;unfold sb;rw[M.bQ h,hp];rfl
  |some g=>obtain⟨h1,h2⟩:=and_true.1 (show(te ops t g.1&&qg ops g t)=true from hw);show tJ ops g (dI P o.op) o.dst YO nt t _=_;unfold tJ;rw[h1,h2,dC];show((dI P o.op).val YO t).bind (fun v=>lift<|ji nt t o.dst v) _=_;rw[M.bQ h,hp];rfl
 have hal:alone i (gN P YO nt ops o t) s= .ok (t1,KD i s s1) (DM s s1):=by obtain⟨hh,nx,mark,rd,wr⟩:=s;obtain⟨ye,pR,O6,gj,nU⟩:=s1;unfold alone;simp only[yH];show(@R.rec _ (fun _=>R<|Tr AV×dx) .bad (fun a s1=>_)<|gN P YO nt ops o t<|Jv ⟨hh,nx,mark,rd,wr⟩)=_;rw[ha];rfl
 show((alone i<|gN P YO nt ops o t).bind fun x=>(mZ P YO nt ops [] (i+1) x.1).bind fun y=>M.pure (y.1,x.2::y.2)) s=_;rw[M.bQ hal];rfl
def PH:BinOp->Int->Int->Option Bool
 | .lss,a,b=>some<|decide<|a<b
 | .leq,a,b=>some<|decide<|a<=b
 | .gtr,a,b=>some<|decide<|a>b
 | .geq,a,b=>some<|decide<|a>=b
 | .eql,a,b=>some<|a == b
 | .neq,a,b=>some<|!(a == b)
 |_,_,_=>none
theorem afj{op:BinOp}{ty yt:TypeId}{x y:Operand}{k:IntKind}{a b:Int}{r:Bool}(hx:aI t x=some (.int k a))(hy:aI t y=some (.int k b))(h:PH op a b=some r):(dI P<|.binOp op ty x y yt).val YO t s= .ok (.bool r) s:=by cases op<;>simp only[PH,Option.some.injEq,reduceCtorEq] at h<;>exact ady hx hy rfl rfl (by subst h;rfl)
theorem zG.start(h:Nat.ble J s.nx=true){fr:AF}(H:zG P B J Q fr s):au P B J Q fr s:=H<|aM.1 h
theorem CV{g:FuncId}{fn:Func}(h:P.funcs[g]? =some fn)(hb:fn.body.isSome=true):fn.body=some (a9 P g []):=by
 unfold a9 VA;rw[h];simp only[sS];cases e:fn.body with
 |none=>rw[e] at hb;cases hb
 |some c=>rfl
end
end Go.Rn
namespace Go.Rn
open Go.RowKit
variable {α:Type} {l:List α} {i K n j:Nat} {enc:α->List AV} {c x c':α}
theorem S4{α:Type}(u v:Option α):∀(p q:List Bool) (t:Tr α),p≠q->Tr.mr u p (Tr.mr v q t)=Tr.mr v q (Tr.mr u p t)
 |[],[],_,h=>absurd rfl h
 |[],b::q,t,_=>by
  cases t with
  |nil=>cases b<;>rfl
  |node l x r=>cases b<;>rfl
 |a::p,[],t,_=>by
  cases t with
  |nil=>cases a<;>rfl
  |node l x r=>cases a<;>rfl
 |a::p,b::q,t,h=>by
  have ih:∀t:Tr α,a=b->Tr.mr u p (Tr.mr v q t)=Tr.mr v q (Tr.mr u p t):=fun t e=>S4 u v p q t (fun e2=>h<|by rw[e,e2]);cases t with
  |nil=>cases a<;>cases b<;>simp[Tr.M9,Tr.Fg,ih]
  |node l x r=>cases a<;>cases b<;>simp[Tr.Fg,ih]
theorem MH(u v:Option α):∀(p:List Bool) (t:Tr α),Tr.mr u p (Tr.mr v p t)=Tr.mr u p t
 |[],t=>by cases t<;>rfl
 |a::p,t=>by
  cases t with
  |nil=>cases a<;>simp[Tr.M9,Tr.Fg,MH u v p]
  |node l x r=>cases a<;>simp[Tr.Fg,MH u v p]
theorem put_comm(t:Tr α)(n m:Nat)(u v:Option α)(hn:n<top)(h:n≠m):(t.put m v).put n u=(t.put n u).put m v:=S4 u v _ _ t fun e=>Ut hn (fun e2=>h e2.symm) e.symm
theorem acd(t:Tr α)(n:Nat)(u v:Option α):(t.put n v).put n u=t.put n u:=MH u v _ t
theorem TP:∀(l:List α) (i:Nat) (t:Tr α) (n:Nat),n<i->n<top->(Tr.fill l i t).put n (some x)=Tr.fill l i (t.put n<|some x)
 |[],_,_,_,_,_=>rfl
 |y::l,i,t,n,h,hn=>by show(Tr.fill l (i+1)<|t.put i<|some y).put n (some x)=Tr.fill l (i+1) ((t.put n<|some x).put i<|some y);rw[TP l (i+1) _ n aj hn,put_comm t n i _ _ hn aj]
theorem S5:∀(l:List α) (i k:Nat) (t:Tr α),k<l.length->i+k<top->(Tr.fill l i t).put (i+k) (some x)=Tr.fill (l.set k x) i t
 |[],_,_,_,h,_=>by simp at h
 |y::l,i,0,t,_,h=>by show(Tr.fill l (i+1)<|t.put i<|some y).put i (some x)=Tr.fill l (i+1) (t.put i<|some x);rw[TP l (i+1) _ i aj h,acd]
 |y::l,i,k+1,t,h,ht=>by show(Tr.fill l (i+1)<|t.put i<|some y).put (i+(k+1)) (some x)=Tr.fill (l.set k x) (i+1) (t.put i<|some y);rw[show i+(k+1)=i+1+k by omega];exact S5 l (i+1) k _ (by simpa using h) aj
def ib:List α->Nat->List α->List α
 |l,_,[]=>l
 |l,k,x::r=>ib (l.set k x) (k+1) r
theorem S6{α:Type}:∀(r l:List α) (k:Nat),k+r.length<=l.length->l.length<=top->Tr.fill r k (Tr.fill l 0 .nil)=Tr.fill (ib l k r) 0 .nil
 |[],_,_,_,_=>rfl
 |x::r,l,k,h,ht=>by simp only[List.length_cons] at h;show Tr.fill r (k+1) ((Tr.fill l 0 .nil).put k<|some x)=Tr.fill (ib (l.set k x) (k+1) r) 0 .nil;have:=S5 (x:=x) l 0 k .nil aj aj;rw[Nat.zero_add] at this;rw[this];exact S6 r (l.set k x) (k+1) (by rw[List.length_set];omega) (by rw[List.length_set];exact ht)
theorem NS{α:Type}:∀(r l:List α) (k i:Nat),k+r.length<=l.length->(ib l k r)[i]? =if k<=i/\i<k+r.length then r[i - k]? else l[i]?
 |[],l,k,i,_=>by show l[i]? =_;simp;intro h1 h2;omega
 |x::r,l,k,i,h=>by
  simp only[List.length_cons] at h ⊢;show(ib (l.set k x) (k+1) r)[i]? =_;rw[NS r (l.set k x) (k+1) i (by rw[List.length_set];omega)];by_cases e:i=k
  ·subst e;rw[if_neg aj,if_pos aj,Nat.sub_self,List.getElem?_set];simp;omega
  ·by_cases q:k+1<=i/\i<k+1+r.length
   ·rw[if_pos q,if_pos aj];obtain⟨j,rfl⟩:∃j,i=k+1+j:=⟨i - (k+1),by omega⟩;rw[show k+1+j - (k+1)=j by omega,show k+1+j - k=j+1 by omega];simp
   ·rw[if_neg q,if_neg aj,List.getElem?_set_ne aj]
theorem I0{K:Nat}{β:Type}:∀{L:List<|List β} {i j:Nat},(∀c∈L,c.length=K)->i<L.length->j<K->∀{c:List β},L[i]? =some c->L.flatten[i*K+j]? =c[j]?
 |[],_,_,_,h,_,_,_=>by simp at h
 |x::L,0,j,hL,_,hj,c,hc=>by simp at hc;subst hc;have hx:=hL x List.mem_cons_self;rw[List.flatten_cons,Nat.zero_mul,Nat.zero_add,List.getElem?_append_left aj]
 |x::L,i+1,j,hL,hi,hj,c,hc=>by have hx:=hL x List.mem_cons_self;rw[List.flatten_cons,List.getElem?_append_right (by rw[hx,Nat.add_mul];omega),hx,show(i+1)*K+j - K=i*K+j by rw[Nat.add_mul];omega];exact I0 (fun c hc=>hL c<|List.mem_cons_of_mem _ hc) (by simpa using hi) hj (by simpa using hc)
theorem ace(he:∀x,(enc x).length=K){r:List AV}(hc:l[i]? =some c)(hr:enc c'=ib (enc c) j r)(hj:j+r.length<=K):ib (l.map enc).flatten (i*K+j) r=((l.set i c').map enc).flatten:=by
 have hi:=(List.getElem?_eq_some_iff.1 hc).1;have dM:∀(l:List α),∀c∈l.map enc,c.length=K:=fun l c hc=>by obtain⟨x,_,rfl⟩:=List.mem_map.1 hc;exact he x
 have yl:∀l:List α,(l.map enc).flatten.length=l.length*K:=fun l=>by rw[sL<|dM l,List.length_map]
 have hmul:i*K+K<=l.length*K:=by have:=Nat.mul_le_mul_right K hi;rw[Nat.succ_mul] at this;exact this
 apply List.ext_getElem?;intro m;rw[NS _ _ _ _ (by rw[yl];omega)];by_cases hm:m<l.length*K
 ·have hK:0<K:=by
   cases K with
   |zero=>simp at hm
   |succ k=>omega
  have hq:m / K<l.length:=by rw[Nat.div_lt_iff_lt_mul hK];exact hm
  have EJ:m=m / K*K+m % K:=by rw[Nat.mul_comm];exact(Nat.div_add_mod m K).symm
  have GN:m % K<K:=Nat.mod_lt _ hK;have hold:(l.map enc).flatten[m]? =(enc<|l[m / K]'hq)[m % K]? :=by
   conv=>lhs;rw[EJ]
   exact I0 (dM l) (by rw[List.length_map];exact hq) GN (by rw[List.getElem?_map,List.getElem?_eq_getElem hq];rfl)
  have dU:m / K<(l.set i c').length:=by rw[List.length_set];exact hq
  have vP:((l.set i c').map enc).flatten[m]? =(enc<|(l.set i c')[m / K]'dU)[m % K]? :=by
   conv=>lhs;rw[EJ]
   exact I0 (dM _) (by rw[List.length_map];exact dU) GN (by rw[List.getElem?_map,List.getElem?_eq_getElem dU];rfl)
  rw[vP,hold];by_cases e:m / K=i
  ·have hci:l[m / K]'hq=c:=by
    have:l[m / K]? =some c:=by rw[e];exact hc
    rw[List.getElem?_eq_getElem hq] at this;injection this
   have uw:(l.set i c')[m / K]'dU=c':=by simp[e]
   rw[uw,hci,hr,NS _ _ _ _ (by rw[he];exact hj)];have amU:m=i*K+m % K:=by rw[e] at EJ;exact EJ
   by_cases q:j<=m % K/\m % K<j+r.length
   ·rw[if_pos aj,if_pos q];congr 1;omega
   ·rw[if_neg (by intro q2;apply q;omega),if_neg q]
  ·have uw:(l.set i c')[m / K]'dU=l[m / K]'hq:=by rw[List.getElem_set_ne fun e2=>e e2.symm]
   rw[uw,if_neg];intro q;apply e;have h1:m<(i+1)*K:=by rw[Nat.add_mul];omega
   have h2:i*K<=m:=by omega
   have h3:=(Nat.le_div_iff_mul_le hK).2 h2;have h4:=(Nat.div_lt_iff_lt_mul hK).2 h1;omega
 ·rw[if_neg aj,List.getElem?_eq_none (by rw[yl];omega),List.getElem?_eq_none (by rw[yl,List.length_set];omega)]
noncomputable section
def aZ(n:Nat)(s:AS):AS:= @Bool.rec (fun _=>AS) s ⟨s.h,s.nx,s.mark,n::s.rd,s.wr⟩<|Nat.blt n s.mark
def fF(n:Nat)(o:Option ab)(s:AS):AS:= @Bool.rec (fun _=>AS) ⟨s.h.put n o,s.nx,s.mark,s.rd,s.wr⟩ ⟨s.h.put n o,s.nx,s.mark,n::s.rd,n::s.wr⟩<|Nat.blt n s.mark
end
section
variable {P:Program} {s:AS} {YO:aK} {t:Tr AV}
theorem md{o:ab}(h1:Nat.blt n s.nx=true)(h2:s.h.get n=some o):bq n s= .ok o (aZ n s):=by obtain⟨hh,nx,mark,rd,wr⟩:=s;have e1:Nat.blt n nx=true:=h1;have e2:hh.get n=some o:=h2;show @Bool.rec (fun _=>R ab) .bad (@Option.rec ab (fun _=>R ab) .bad (fun o=> @Bool.rec (fun _=>R ab) (.ok o ⟨hh,nx,mark,rd,wr⟩) (.ok o ⟨hh,nx,mark,n::rd,wr⟩)<|Nat.blt n mark)<|hh.get n) (Nat.blt n nx)=_;rw[e1,e2];show @Bool.rec (fun _=>R ab) (.ok o ⟨hh,nx,mark,rd,wr⟩) (.ok o ⟨hh,nx,mark,n::rd,wr⟩) (Nat.blt n mark)= .ok o (@Bool.rec (fun _=>AS) ⟨hh,nx,mark,rd,wr⟩ ⟨hh,nx,mark,n::rd,wr⟩<|Nat.blt n mark);cases Nat.blt n mark<;>rfl
theorem fQ(n:Nat)(s:AS):(aZ n s).h=s.h/\(aZ n s).nx=s.nx/\(aZ n s).mark=s.mark:=by unfold aZ;cases Nat.blt n s.mark<;>exact⟨rfl,rfl,rfl⟩
theorem yQ{o:Option ab}{p:ab}(h1:Nat.blt n s.nx=true)(h2:s.h.get n=some p)(h3:p.dm=false)(ht:Nat.blt n top=true):bN n o s= .ok () (fF n o s):=by obtain⟨hh,nx,mark,rd,wr⟩:=s;have e1:(Nat.blt n nx&&Nat.blt n top)=true:=and_true.2 ⟨h1,ht⟩;have e2:hh.get n=some p:=h2;show @Bool.rec (fun _=>R Unit) .bad (@Option.rec ab (fun _=>R Unit) .bad (fun p=> @Bool.rec (fun _=>R Unit) (@Bool.rec (fun _=>R Unit) (.ok () ⟨hh.put n o,nx,mark,rd,wr⟩) (.ok () ⟨hh.put n o,nx,mark,n::rd,n::wr⟩)<|Nat.blt n mark) .bad p.dm)<|hh.get n) (Nat.blt n nx&&Nat.blt n top)=_;rw[e1,e2];show @Bool.rec (fun _=>R Unit) (@Bool.rec (fun _=>R Unit) (.ok () ⟨hh.put n o,nx,mark,rd,wr⟩) (.ok () ⟨hh.put n o,nx,mark,n::rd,n::wr⟩)<|Nat.blt n mark) .bad p.dm=_;rw[h3];show @Bool.rec (fun _=>R Unit) (.ok () ⟨hh.put n o,nx,mark,rd,wr⟩) (.ok () ⟨hh.put n o,nx,mark,n::rd,n::wr⟩) (Nat.blt n mark)= .ok () (@Bool.rec (fun _=>AS) ⟨hh.put n o,nx,mark,rd,wr⟩ ⟨hh.put n o,nx,mark,n::rd,n::wr⟩<|Nat.blt n mark);cases Nat.blt n mark<;>rfl
theorem uN(he:∀x,(enc x).length=K)(l:List α):(l.map enc).flatten.length=l.length*K:=by rw[sL (K:=K) (fun c hc=>by obtain⟨x,_,rfl⟩:=List.mem_map.1 hc;exact he x),List.length_map]
theorem UH(he:∀x,(enc x).length=K){k:Nat}(hc:l[i]? =some c)(hj:j+k<=K):i*K+j+k<=(l.map enc).flatten.length/\((l.map enc).flatten.drop<|i*K+j).take k=((enc c).drop j).take k:=by
 have hi:=(List.getElem?_eq_some_iff.1 hc).1;have hmul:i*K+K<=l.length*K:=by have:=Nat.mul_le_mul_right K hi;rw[Nat.succ_mul] at this;exact this
 refine⟨by rw[uN he];omega,?_⟩;apply List.ext_getElem?;intro m;rw[List.getElem?_take,List.getElem?_take];split
 ·rename_i hm;rw[List.getElem?_drop,List.getElem?_drop,Nat.add_assoc];exact I0 (fun c hc=>by obtain⟨x,_,rfl⟩:=List.mem_map.1 hc;exact he x) (by rw[List.length_map];exact hi) aj (by rw[List.getElem?_map,hc];rfl)
 ·rfl
theorem TQ(h:l[i]? =some c):(l.set i c')[i]? =some c':=by have hi:=(List.getElem?_eq_some_iff.1 h).1;rw[List.getElem?_set_self hi]
end
end Go.Rn
namespace Go.Rn
variable {ops:Array Oper}
def afk(ops:Array Oper):Bool:=ops.toList.zipIdx.all fun x=>x.1.after.toList.all fun e=> !Region.binds .any e||decide (e.on<x.2)
def Pe(ops:Array Oper)(x y:Oper):Bool:=
 match x.dst with
 |none=>false
 |some d=>(y.looksAt ops).contains d||y.dst == some d
def afl(ops:Array Oper)(b:Array Nat):Bool:=ops.toList.zipIdx.all fun x=>ops.toList.zipIdx.all fun y=> !(Pe ops x.1 y.1)||(Nat.beq x.2 y.2|| !loose b x.2 y.2)
def PI(ops:Array Oper):Bool:=afk ops&&afl ops (CheckFast.beforeF ops)
def sU:Code->Bool
 | .seq a b=>sU a&&sU b
 | .cond _ a b=>sU a&&sU b
 | .block _ b=>sU b
 | .loop b=>sU b
 | .scope b=>sU b
 | .region _ ops draw=> !draw||PI ops
 | .rangeFunc _ _ a b=>sU a&&sU b
 |_=>true
def agL(P:Program):Bool:=P.funcs.toList.all fun fn=>match fn.body with
 |none=>true
 |some c=>sU c
theorem Mj{i:Nat}{o:Oper}(h:ops[i]? =some o):(o,i)∈ops.toList.zipIdx:=by rw[List.mem_zipIdx_iff_getElem?];simpa using h
theorem adC(h:PI ops=true):J1 ops:=by
 unfold PI at h;obtain⟨h1,h2⟩:=Bool.and_eq_true_iff.1 h;rw[CheckFast.beforeF_eq] at h2;refine⟨fun j o e ho hm hb=>?_,fun i j x y d mB hx hy hd cV=>?_⟩
 ·have:=List.all_eq_true.1 (List.all_eq_true.1 h1 _<|Mj ho) e<|Array.mem_toList_iff.2 hm;simp only[hb,Bool.not_true,Bool.false_or,decide_eq_true_eq] at this;exact this
 ·have:=List.all_eq_true.1 (List.all_eq_true.1 h2 _<|Mj hx) _<|Mj hy;have hc:Pe ops x y=true:=by
   unfold Pe;rw[hd];simp only[Bool.or_eq_true,beq_iff_eq];rcases cV with q|q
   ·exact .inl<|List.contains_iff_mem.2 q
   ·exact .inr q
  simp only[hc,Bool.not_true,Bool.false_or,Bool.or_eq_true,Bool.not_eq_true'] at this;rcases this with q|q
  ·exact absurd (Nat.beq_eq.mp q) mB
  ·exact q
theorem aad:∀{c:Code},sU c=true->ir c:=by
 intro c;induction c with
 |seq a b B0 B1=>intro h;obtain⟨h1,h2⟩:=Bool.and_eq_true_iff.1 h;exact⟨B0 h1,B1 h2⟩
 |cond _ a b B0 B1=>intro h;obtain⟨h1,h2⟩:=Bool.and_eq_true_iff.1 h;exact⟨B0 h1,B1 h2⟩
 |block _ b ih=>intro h;exact ih h
 |loop b ih=>intro h;exact ih h
 |scope b ih=>intro h;exact ih h
 |region id ops draw=>intro h hd;subst hd;exact adC h
 |rangeFunc _ _ a b B0 B1=>intro h;obtain⟨h1,h2⟩:=Bool.and_eq_true_iff.1 h;exact⟨B0 h1,B1 h2⟩
 |_=>intro _;trivial
theorem amw{P:Program}(hm:P.follows .mixedOrders=true)(h:agL P=true):bE P:=by refine⟨hm,fun f fn body hf hb=>?_⟩;have:=List.all_eq_true.1 h fn (List.mem_of_getElem?<|by simpa using hf);rw[hb] at this;exact aad this
end Go.Rn
namespace Go.Rn
open Go.RowKit
noncomputable section
end
end Go.Rn
namespace Go.Rn
open Go.RowKit
noncomputable section
end
section
variable {P:Program} {s s1:AS} {YO:aK} {t:Tr AV}
end
end Go.Rn
namespace Go.Rn
end Go.Rn
namespace Go.Rn
open Go.RowKit
variable {ρ σ:aw} {x:AV} {v:Value}
theorem adD(k:IntKind)(lo hi:Int)(n:Int)(h:lo<=n/\n<=hi)(hk:(k.signed=true/\lo= -(2 ^ (k.bits - 1):Int)/\hi=(2 ^ (k.bits - 1):Int) - 1/\(2 ^ k.bits:Int)=2*(2 ^ (k.bits - 1):Int)/\(0:Int)<(2 ^ (k.bits - 1):Int))\/(k.signed=false/\lo=0/\hi=(2 ^ k.bits:Int) - 1)):IntKind.wrap k n=n:=by
 unfold IntKind.wrap;rcases hk with⟨hs,h1,h2,h3,h4⟩|⟨hs,h1,h2⟩
 ·simp only[hs,Bool.true_and,decide_eq_true_eq];subst h1;subst h2;rw[h3];generalize (2 ^ (k.bits - 1):Int)=p at*;by_cases q:0<=n
  ·have:n % (2*p)=n:=Int.emod_eq_of_lt q aj;rw[this,if_neg aj]
  ·have:n % (2*p)=n+2*p:=by rw[←Int.add_emod_right,Int.emod_eq_of_lt aj aj]
   rw[this,if_pos aj];omega
 ·simp only[hs,Bool.false_and];subst h1;subst h2;have:n % (2 ^ k.bits:Int)=n:=Int.emod_eq_of_lt h.1 aj;simp[this]
theorem Mb{n:Int}(h: -9223372036854775808<=n/\n<=9223372036854775807):IntKind.wrap .i64 n=n:=adD .i64 _ _ n h<|.inl ⟨rfl,by decide,by decide,by decide,by decide⟩
section
variable {P:Program} {s s1:AS} {YO:aK} {t:Tr AV}
end
def AV.bG(x:AV):Bool:=match x with
 | .U n _ _=>Nat.ble top n
 |x=>x.flat
def AV.kj(x:AV):Bool:=match x with
 | .agg l=>l.all AV.bG
 |x=>x.bG
def AV.hi(x:AV):Bool:=match x with
 | .agg l=>l.all AV.bG
 | .tuple l=>l.all AV.kj
 |x=>x.bG
def jl(ρ σ:aw):Prop:=∀k x,top<=k->ρ k=some x->σ k=some x
theorem qA.hi(h:jl ρ σ){n b sh:Nat}(ht:top<=n)(k:qA ρ n b sh):qA σ n b sh:=.inr ⟨ht,fun e=>k.high ht (by
 cases q:ρ (hn n b sh) with
 |none=>rfl
 |some x=>rw[h _ _ (fY _ _ _) q] at e;cases e)⟩
theorem VR.flat(h:x.flat=true)(k:VR ρ x v):VR σ x v:=by
 cases x<;>first|(simp only[VR] at k ⊢;exact k)|(cases h;done)|skip
 case slice a len cap=>cases a with
  |some _=>cases h
  |none=>cases cap with
   |known c=>simp only[VR] at k ⊢;exact k
   |aq _ _=>cases h
   |lost=>cases h
 all_goals
  rename_i a;cases a with
  |none=>simp only[VR] at k ⊢;exact k
  |some _=>cases h
theorem AV.u0(kl:jl ρ σ)(h:x.bG=true)(k:VR ρ x v):VR σ x v:=by
 unfold AV.bG at h;split at h
 ·have ht:=aM.1 h;simp only[VR] at k ⊢;exact k.imp id fun⟨b,sh,c,q1,q2⟩=>⟨b,sh,c,q1.hi kl ht,q2⟩
 ·exact VR.flat h k
theorem AV.NT(kl:jl ρ σ):∀{l:List AV} {vs:List Value},l.all AV.bG=true->aA ρ l vs->aA σ l vs
 |[],_,_,hv=>by simpa only[aA] using hv
 |y::l,vs,hy,hv=>by obtain⟨h1,h2⟩:=and_true.1 (show(y.bG&&l.all AV.bG)=true from hy);simp only[aA] at hv ⊢;obtain⟨a,as,e,h3,h4⟩:=hv;exact⟨a,as,e,AV.u0 kl h1 h3,AV.NT kl h2 h4⟩
theorem AV.afm(kl:jl ρ σ)(h:x.kj=true)(k:VR ρ x v):VR σ x v:=by
 unfold AV.kj at h;split at h
 ·simp only[VR] at k ⊢;obtain⟨a,e,q⟩:=k;exact⟨a,e,AV.NT kl h q⟩
 ·exact AV.u0 kl h k
theorem AV.UI(kl:jl ρ σ):∀{l:List AV} {vs:List Value},l.all AV.kj=true->aA ρ l vs->aA σ l vs
 |[],_,_,hv=>by simpa only[aA] using hv
 |y::l,vs,hy,hv=>by obtain⟨h1,h2⟩:=and_true.1 (show(y.kj&&l.all AV.kj)=true from hy);simp only[aA] at hv ⊢;obtain⟨a,as,e,h3,h4⟩:=hv;exact⟨a,as,e,AV.afm kl h1 h3,AV.UI kl h2 h4⟩
theorem AV.py(kl:jl ρ σ)(h:x.hi=true)(k:VR ρ x v):VR σ x v:=by
 unfold AV.hi at h;split at h
 ·simp only[VR] at k ⊢;obtain⟨a,e,q⟩:=k;exact⟨a,e,AV.NT kl h q⟩
 ·simp only[VR] at k ⊢;obtain⟨a,e,q⟩:=k;exact⟨a,e,AV.UI kl h q⟩
 ·exact AV.u0 kl h k
theorem AV.Bh(kl:jl ρ σ):∀{l:List AV} {vs:List Value},l.all AV.hi=true->aA ρ l vs->aA σ l vs
 |[],_,_,hv=>by simpa only[aA] using hv
 |y::l,vs,hy,hv=>by obtain⟨h1,h2⟩:=and_true.1 (show(y.hi&&l.all AV.hi)=true from hy);simp only[aA] at hv ⊢;obtain⟨a,as,e,h3,h4⟩:=hv;exact⟨a,as,e,AV.py kl h1 h3,AV.Bh kl h2 h4⟩
theorem afn:jl ρ<|gi ρ:=fun k x hk e=>by unfold gi;rw[if_pos hk];exact e
end Go.Rn
namespace Go.Rn
open Go.RowKit
def pI(sp:Sp)(g:FuncId)(m:aK->List AV->M AV):Sp:=fun f=>bif Nat.beq f g then some m else sp f
theorem Sn{sp:Sp}{g:FuncId}{m m':aK->List AV->M AV}{f:FuncId}(h:pI sp g m f=some m'):(f=g/\m'=m)\/sp f=some m':=by
 unfold pI at h;cases e:Nat.beq f g with
 |true=>rw[e] at h;injection h with h;exact .inl ⟨Nat.eq_of_beq_eq_true e,h.symm⟩
 |false=>rw[e] at h;exact .inr h
end Go.Rn
namespace Go.Rn
end Go.Rn
namespace Go.Rn
open Go.RowKit
section
variable {P:Program} {B:aL} {ρ:aw} {w:World} {s s1:AS}
end
end Go.Rn
namespace Go.Rn
open Go.RowKit
noncomputable section
def dP(J:Nat)(h0:Tr ab)(ns:List Nat)(s:AS):AS:=match fG J h0 ns s with| .ok _ s1=>s1| .bad=>s
def qG(J:Nat)(h0:Tr ab)(ns:List Nat)(s:AS):Bool:=match fG J h0 ns s with| .ok _ _=>true| .bad=>false
end
theorem xm{J:Nat}{h0:Tr ab}{ns:List Nat}{s:AS}(h:qG J h0 ns s=true):fG J h0 ns s= .ok () (dP J h0 ns s):=by
 unfold qG at h;unfold dP;cases e:fG J h0 ns s with
 |bad=>rw[e] at h;cases h
 |ok u s1=>rfl
section
variable {P:Program} {s s1:AS} {YO:aK} {t:Tr AV}
end
def zn(n:Int):Prop:= -9223372036854775808<=n/\n<=9223372036854775807
instance (n:Int):Decidable<|zn n:=by unfold zn;infer_instance
end Go.Rn
namespace Go.Rn
open Go.RowKit
variable {va:Bool} {rs ps:Array TypeId} {e:TypeId} {P:Program}
def I1(P:Program):DataW (List UInt8)->Option FuncId->Bool
 | .nil,none=>true
 | .held (b::r),some f=>(List.range P.funcs.size).filter (fun f=>(P.funcs[f]?).any (·.name.toUTF8.data.toList == b::r)) == [f]
 |_,_=>false
def AU(P:Program):List (DataW<|List UInt8)->List (Option FuncId)->Bool
 |[],[]=>true
 |d::ds,f::fs=>I1 P d f&&AU P ds fs
 |_,_=>false
def agM(P:Program)(d:DataW<|List UInt8)(fs:List<|Option FuncId):Bool:=
 match d with
 | .agg ds=>AU P ds fs
 |_=>false
def I2:Option FuncId->AV
 |none=>.nilFunc
 |some f=>.func (.func f) [] []
def Dk:Option FuncId->Value
 |none=>.nilFunc
 |some f=>.func (.func f) #[] #[]
theorem amx(ρ:aw)(f:Option FuncId):VR ρ (I2 f)<|Dk f:=by
 cases f with
 |none=>simp only[I2,Dk,VR]
 |some f=>simp only[I2,Dk,VR,aA];exact⟨rfl,_,_,rfl,rfl,rfl⟩
theorem TS{α β:Type}{f:α->Option β}:∀{l:List α} {r:List β},l.mapM f=some r->l.length=r.length/\∀(i:Nat) (x:α),l[i]? =some x->∃y,r[i]? =some y/\f x=some y
 |[],r,h=>by simp at h;subst h;exact⟨rfl,fun i x hx=>by simp at hx⟩
 |a::l,r,h=>by
  rw[List.mapM_cons] at h;cases e:f a with
  |none=>simp[e] at h
  |some b=>
   cases e2:l.mapM f with
   |none=>simp[e,e2] at h
   |some bs=>
    simp[e,e2] at h;subst h;obtain⟨h1,h2⟩:=TS e2;refine⟨by simp[h1],fun i x hx=>?_⟩;cases i with
    |zero=>simp at hx;subst hx;exact⟨b,rfl,e⟩
    |succ i=>simp at hx;obtain⟨y,h3,h4⟩:=h2 i x hx;exact⟨y,by simpa using h3,h4⟩
theorem Y9{w:World}{fuel:Nat}{v:Value}{d:DataW<|List UInt8}{q:List MemPlace}{f:Option FuncId}(he:P.underlying e=some (.func ps rs va))(h:DataW.trod (funcToken P) P w 0 (fun _=>true) true fuel e [v]=some (d,q))(hk:I1 P d f=true):v=Dk f:=by
 unfold I1 at hk;split at hk
 ·cases fuel with
  |zero=>simp[DataW.trod] at h
  |succ n=>cases v<;>simp[DataW.trod,he] at h;rfl
 ·exact func_of_trod he (by simpa using hk) h
 ·cases hk
theorem R2{P:Program}:∀{ds:List<|DataW<|List UInt8} {fs:List<|Option FuncId},AU P ds fs=true->ds.length=fs.length/\∀(i:Nat) d f,ds[i]? =some d->fs[i]? =some f->I1 P d f=true
 |[],[],_=>⟨rfl,fun i d f h=>by simp at h⟩
 |[],_::_,h=>by simp[AU] at h
 |_::_,[],h=>by simp[AU] at h
 |d::ds,f::fs,h=>by
  simp only[AU,Bool.and_eq_true] at h;obtain⟨h1,h2⟩:=R2 h.2;refine⟨by simp[h1],fun i a b ha hb=>?_⟩;cases i with
  |zero=>simp at ha hb;subst ha;subst hb;exact h.1
  |succ i=>simp at ha hb;exact h2 i a b ha hb
theorem amv{W:World}{name:String}{d:DataW Unit}{g:Nat}{t:TypeId}{n:Nat}{fs:List<|Option FuncId}(h:funcsAt P W name d)(hg:P.globalNamed name=some g)(hty:(P.globals[g]?).map (·.type)=some t)(ht:P.underlying t=some (.array n e))(he:P.underlying e=some (.func ps rs va))(hc:P.cellsOf e=1)(hct:P.cellsOf t=n)(hd:agM P d.funcsOut fs=true):
 ∃c ty fr,W.heap[g]? =some (.cells c ty fr)/\fs.length=c.size/\∀(i:Nat) f,fs[i]? =some f->c[i]? =some (Dk f):=by
 obtain⟨g',t',cs,fuel,p,h1,h2,h3,h4⟩:=h;obtain rfl:g=g':=Option.some.inj<|hg.symm.trans h1;obtain rfl:t=t':=Option.some.inj<|hty.symm.trans h2;have mJ:∃ty fr,W.heap[g]? =some (.cells cs ty fr):=by
  unfold World.var? at h3;rw[hg] at h3;simp only[Option.bind_some] at h3;split at h3
  ·rename_i c ty fr e;injection h3 with h3;subst h3;exact⟨ty,fr,e⟩
  ·cases h3
 obtain⟨ty,fr,mJ⟩:=mJ;cases fuel with
 |zero=>simp[DataW.trod] at h4
 |succ m=>
  rw[DataW.trod_step] at h4;unfold DataW.trodStep at h4;simp only[ht,hc,Nat.mul_one] at h4;split at h4
  ·rename_i hlen;rw[Option.map_eq_some_iff] at h4;obtain⟨xs,h5,h6⟩:=h4;obtain⟨h7,h8⟩:=TS h5;have aiM:d.funcsOut= .agg (xs.map (·.1)):=by injection h6 with h6 _;exact h6.symm
   rw[aiM] at hd;obtain⟨h9,gE⟩:=R2 (show AU P (xs.map (·.1)) fs=true from hd);have hxl:xs.length=fs.length:=by simpa using h9
   have get:∀(i:Nat) f,fs[i]? =some f->cs[i]? =some (Dk f):=by
    intro i f hf;have hi:i<fs.length:=(List.getElem?_eq_some_iff.1 hf).1;obtain⟨y,uv,qM⟩:=h8 i i (by rw[List.getElem?_range (by simp at h7;omega)]);obtain⟨v,hv⟩:∃v,(cs.toList.drop i).take 1=[v]:=by
     cases hq:(cs.toList.drop i).take 1 with
     |nil=>
      rw[hq] at qM;cases m with
      |zero=>simp[DataW.trod] at qM
      |succ k=>simp[DataW.trod,he] at qM
     |cons v l=>
      have:((cs.toList.drop i).take 1).length<=1:=List.length_take_le _ _;rw[hq] at this;cases l with
      |nil=>exact⟨v,rfl⟩
      |cons=>simp at this
    rw[hv] at qM;have GI:=Y9 (f:=f) (d:=y.1) (q:=y.2) he qM<|gE i y.1 f (by rw[List.getElem?_map,uv];rfl) hf;have:(cs.toList.drop i)[0]? =some v:=by
     have:((cs.toList.drop i).take 1)[0]? =some v:=by rw[hv];rfl
     rw[List.getElem?_take_of_lt aj] at this;exact this
    rw[List.getElem?_drop,Nat.add_zero,Array.getElem?_toList] at this;rw[this,GI]
   refine⟨cs,ty,fr,mJ,?_,get⟩;have We:=hlen;rw[hct] at We;simp at We h7;omega
  ·cases h4
theorem acf(l:List AV)(hl:l.length<=top)(i:Nat)(hi:i<l.length):(Tr.fill l 0 .nil).get i=l[i]? :=by rw[Tr.sO _ _ _ _ aj,if_pos aj];simp
end Go.Rn
namespace Go.Rn
open Go.RowKit
noncomputable section
end
end Go.Rn
namespace Go.Rn
open Go.RowKit
noncomputable section
end
section
variable {P:Program} {B:aL} {J:Nat} {s s1:AS} {YO:aK} {t:Tr AV} {ops:Array Oper} {f nt i:Nat} {K:List Item} {G:AF->AS->Prop} {acc:List dx} {rs:List ResultVar} {v v':AV}
end
section
variable {P:Program} {s s1:AS} {YO:aK} {t:Tr AV}
end
noncomputable section
end
section
variable {P:Program} {F:Nat->Option (List AV)} {sp:Sp} {g n k:Nat} {ad:Option<|Nat×Nat} {cp:cC} {s:AS} {l:List AV} {a b c d:ByteArray} {n1 n2 n3 n4:Nat}
end
end Go.Rn
namespace Go.Rn
open Go.RowKit
noncomputable section
end
end Go.Rn
namespace Go.Rn
end Go.Rn
namespace Go.Rn
open Go.RowKit
variable {n:Nat} {α:Type} {y x:Operand} {ty e:TypeId} {ts:Array TypeId} {l:List α} {i:TypeInfo} {enc:α->List AV}
section
variable {P:Program} {s:AS} {YO:aK} {t:Tr AV}
theorem CI{off k:Nat}{l:List AV}(h1:Nat.blt n s.nx=true)(h2:s.h.get n=some (.cells l.length (Tr.fill l 0 .nil) []))(hl:l.length<=top)(XN:0<k)(hk:off+k<=l.length):jd n off k s= .ok ((l.drop off).take k) (aZ n s):=by
 cases k with
 |zero=>omega
 |succ k=>
  show((bq n).bind fun o=>match o with
   | .cells m t z=>aH (Nat.ble (off+(k+1)) m) <| lift (lp t z (k+1) off)
   | .ro m t=>aH (Nat.ble (off+(k+1)) m) <| lift (lp t [] (k+1) off)
   |_=>fail) s=_
  rw[M.bQ<|md h1 h2];show aH (Nat.ble (off+(k+1)) l.length) (lift<|lp (Tr.fill l 0 .nil) [] (k+1) off) (aZ n s)=_;rw[aM.2 hk,dC,Ma hl _ _ hk];rfl
theorem afo{L:List α}{len:Nat}{cap:cC}{n0 o0 k0:Nat}(hx:aI t x=some (.slice (some (n,0)) len cap))(hlen:len=l.length)(hy:aI t y=some (.U n0 o0 k0))(h0:ts[0]? =some ty)(hu:P.underlying ty=some (.slice e))(hi:P.info? e=some i)(hz:and (sQ i) (pj P ts[1]?)=true)(dq:O3 i.size len cap=true)(dO:top<=n0)(eL:∀s,YO (.row n0 o0<|k0*i.size) [] s= .ok (.agg (L.map enc).flatten) s)(hk:k0=L.length)(hn:s.h.get n=some (aN enc l))(cU:(Nat.blt n s.nx&&Nat.blt s.nx top)=true)(xW:∀x:α,(enc x).length=i.size/\(enc x).all AV.cf=true)(hb:Nat.beq i.bytes 0=false)(tL:2*(l.length+L.length)*i.bytes+4096*i.bytes<=room)(lf:(l.length+L.length)*i.size<=top):
 ∃rd wr,(∀k∈rd,k=n\/k∈s.rd)/\(∀k∈wr,k=n\/k∈s.wr)/\(s.mark=0->rd=s.rd/\wr=s.wr)/\(dI P<|.call ⟨.builtin .append, #[x,y],ts⟩).val YO t s= .ok (.slice (some (s.nx,0)) (l++L).length<|.aq (l++L).length i.size) ⟨(s.h.put n none).put s.nx<|some<|aN enc<|l++L,s.nx+1,s.mark,rd,wr⟩:=by
 subst hlen;subst hk;obtain⟨eZ,Cj⟩:=and_true.1 cU;have aiN:=(blt_eq _ _).mp eZ;have BK:=(blt_eq _ _).mp Cj;have oP:∀l:List α,(l.map enc).flatten.length=l.length*i.size:=fun l=>by
  have:=sL (K:=i.size) (l:=l.map enc) fun c hc=>by obtain⟨a,_,rfl⟩:=List.mem_map.1 hc;exact(xW a).1
  rw[this,List.length_map]
 have vN:∀l:List α,(l.map enc).flatten.all AV.cf=true:=by
  intro l;induction l with
  |nil=>rfl
  |cons x l ih=>simp only[List.map_cons,List.flatten_cons,List.all_append,ih,(xW x).2,Bool.and_true]
 have bB:(l.map enc).flatten.length<=top:=by rw[oP];have:=Nat.mul_le_mul_right i.size (show l.length<=l.length+L.length by omega);omega
 have Pf:∃rd,(∀k∈rd,k=n\/k∈s.rd)/\(s.mark=0->rd=s.rd)/\jd n 0 (l.length*i.size) s= .ok (l.map enc).flatten ⟨s.h,s.nx,s.mark,rd,s.wr⟩:=by
  cases hk:l.length*i.size with
  |zero=>have:(l.map enc).flatten=[]:=List.eq_nil_of_length_eq_zero (by rw[oP,hk]);rw[this];exact⟨s.rd,fun k h=>.inr h,fun _=>rfl,rfl⟩
  |succ k=>
   have hr:=CI (n:=n) (off:=0) (k:=k+1) (l:=(l.map enc).flatten) (s:=s) eZ hn bB (Nat.succ_pos _) (by rw[oP,hk];omega);rw[List.drop_zero, ←hk, ←oP,List.take_length] at hr;rw[←hk, ←oP];refine⟨(aZ n s).rd,?_,fun hm=>?_,?_⟩
   ·intro k h;unfold aZ at h;cases q:Nat.blt n s.mark with
    |false=>rw[q] at h;exact .inr h
    |true=>rw[q] at h;rcases List.mem_cons.1 h with h|h;exact .inl h;exact .inr h
   ·unfold aZ;rw[hm,show Nat.blt n 0=false from by cases q:Nat.blt n 0 with|false=>rfl|true=>have:=(blt_eq _ _).mp q;omega]
   ·rw[hr];congr 1;unfold aZ;cases Nat.blt n s.mark<;>rfl
 obtain⟨gj,a1,a2,a3⟩:=Pf;have pG:∃rd wr,(∀k∈rd,k=n\/k∈s.rd)/\(∀k∈wr,k=n\/k∈s.wr)/\(s.mark=0->rd=s.rd/\wr=s.wr)/\
  ((bq n).bind fun ob=>aH ob.yL <| (bN n none).bind fun _=>grown i.size i.bytes (l.length+L.length) (l.map enc).flatten (L.map enc).flatten) ⟨s.h,s.nx,s.mark,gj,s.wr⟩= .ok (.slice (some (s.nx,0)) (l.length+L.length)<|.aq (l.length+L.length) i.size) ⟨(s.h.put n none).put s.nx<|some<|aN enc<|l++L,s.nx+1,s.mark,rd,wr⟩:=by
  rw[M.bQ<|md (s:=⟨s.h,s.nx,s.mark,gj,s.wr⟩) eZ hn];rw[show(aN enc l).yL=true from rfl,dC];obtain⟨b1,b2,b3⟩:=fQ n ⟨s.h,s.nx,s.mark,gj,s.wr⟩;rw[M.bQ<|yQ (o:=none) (p:=aN enc l) (s:=aZ n ⟨s.h,s.nx,s.mark,gj,s.wr⟩) (by rw[b2];exact eZ) (by rw[b1];exact hn) rfl (by rw[blt_eq];omega)];have PJ:(l.map enc).flatten++(L.map enc).flatten=((l++L).map enc).flatten:=by rw[List.map_append,List.flatten_append]
  unfold grown;rw[show(and (Nat.ble (2*(l.length+L.length)*i.bytes+4096*i.bytes) room)<|not<|Nat.beq i.bytes 0)=true from and_true.2 ⟨aM.2 tL,by rw[hb];rfl⟩,dC,PJ];have hw:∃rd wr,(∀k∈rd,k=n\/k∈s.rd)/\(∀k∈wr,k=n\/k∈s.wr)/\(s.mark=0->rd=s.rd/\wr=s.wr)/\fF n none (aZ n ⟨s.h,s.nx,s.mark,gj,s.wr⟩)=⟨s.h.put n none,s.nx,s.mark,rd,wr⟩:=by
   unfold fF aZ;cases q:Nat.blt n s.mark with
   |false=>refine⟨gj,s.wr,a1,fun k h=>.inr h,fun hm=>⟨a2 hm,rfl⟩,?_⟩;show(@Bool.rec (fun _=>AS) _ _<|Nat.blt n s.mark)=_;rw[q]
   |true=>
    refine⟨n::n::gj,n::s.wr,?_,?_,fun hm=>?_,?_⟩
    ·intro k h;rcases List.mem_cons.1 h with h|h
     ·exact .inl h
     ·rcases List.mem_cons.1 h with h|h
      ·exact .inl h
      ·exact a1 k h
    ·intro k h;rcases List.mem_cons.1 h with h|h
     ·exact .inl h
     ·exact .inr h
    ·rw[hm] at q;have:=(blt_eq _ _).mp q;omega
    ·show(@Bool.rec (fun _=>AS) _ _<|Nat.blt n s.mark)=_;rw[q]
  obtain⟨rd,wr,c1,c2,c3,c4⟩:=hw;rw[c4];refine⟨rd,wr,c1,c2,c3,?_⟩;have vP:=Iq (s:=⟨s.h.put n none,s.nx,s.mark,rd,wr⟩) (l:=((l++L).map enc).flatten) (by rw[oP];simpa using lf) (vN _) BK;exact(M.bQ vP).trans rfl
 obtain⟨rd,wr,d1,d2,d3,d4⟩:=pG;refine⟨rd,wr,d1,d2,d3,?_⟩;show oo P .append ts [x,y] YO t s=_;unfold oo;have nH:jP (aI t) [x,y]=some [.slice (some (n,0)) l.length cap,.U n0 o0 L.length]:=by simp only[jP,hx,hy]
 rw[nH,ch];show AQ P YO ts (.slice (some (n,0)) l.length cap) n0 o0 L.length s=_;unfold AQ;rw[aM.2 dO,dC,h0,ch];simp only[hu];rw[hi,ch,hz,dC,dq,dC];have hr:sR YO n0 o0 (L.length*i.size) s= .ok (L.map enc).flatten s:=by
  rcases Nat.eq_zero_or_pos (L.length*i.size) with QC|QC
  ·rw[List.eq_nil_of_length_eq_zero<|(oP L).trans QC,QC];rfl
  rw[show sR YO n0 o0 (L.length*i.size)=(YO (.row n0 o0<|L.length*i.size) []).bind fun x=>match x with
   | .agg l=>aH (Nat.beq l.length<|L.length*i.size) <| M.pure l
   |_=>fail from by obtain⟨m,hm⟩:∃m,L.length*i.size=m+1:=⟨L.length*i.size - 1,by omega⟩;rw[hm];rfl]
  rw[M.bQ<|eL s];show aH (Nat.beq (L.map enc).flatten.length<|L.length*i.size) (M.pure (L.map enc).flatten) s=_;rw[oP,dT.2 rfl,dC];rfl
 rw[M.bQ hr,M.bQ a3,d4];simp
theorem afp{c:α}{m:Nat}(hx:aI t x=some (.slice (some (n,0)) l.length<|.aq l.length i.size))(hy:aI t y=some (.slice (some (m,0)) 1<|.known 1))(h0:ts[0]? =some ty)(hu:P.underlying ty=some (.slice e))(hi:P.info? e=some i)(hz:and (sQ i) (pj P ts[1]?)=true)(hn:s.h.get n=some (aN enc l))(hm:s.h.get m=some (.cells (enc c).length (Tr.fill (enc c) 0 .nil) []))(cU:(Nat.blt n s.nx&&(Nat.blt m s.nx&&Nat.blt s.nx top))=true)(xW:∀x:α,(enc x).length=i.size/\(enc x).all AV.cf=true)(Eb:0<i.size)(hb:Nat.beq i.bytes 0=false)(tL:2*(l.length+1)*i.bytes+4096*i.bytes<=room)(lf:(l.length+1)*i.size<=top):
 ∃rd wr,(∀k∈rd,k=n\/k=m\/k∈s.rd)/\(∀k∈wr,k=n\/k∈s.wr)/\(s.mark=0->rd=s.rd/\wr=s.wr)/\(dI P<|.call ⟨.builtin .append, #[x,y],ts⟩).val YO t s= .ok (.slice (some (s.nx,0)) (l++[c]).length<|.aq (l++[c]).length i.size) ⟨(s.h.put n none).put s.nx<|some<|aN enc<|l++[c],s.nx+1,s.mark,rd,wr⟩:=by
 obtain⟨eZ,cU⟩:=and_true.1 cU;obtain⟨eg,Cj⟩:=and_true.1 cU;have aiN:=(blt_eq _ _).mp eZ;have BK:=(blt_eq _ _).mp Cj;have oP:∀l:List α,(l.map enc).flatten.length=l.length*i.size:=fun l=>by
  have:=sL (K:=i.size) (l:=l.map enc) fun c hc=>by obtain⟨a,_,rfl⟩:=List.mem_map.1 hc;exact(xW a).1
  rw[this,List.length_map]
 have vN:∀l:List α,(l.map enc).flatten.all AV.cf=true:=by
  intro l;induction l with
  |nil=>rfl
  |cons x l ih=>simp only[List.map_cons,List.flatten_cons,List.all_append,ih,(xW x).2,Bool.and_true]
 have WR:(l.length+1)*i.size=l.length*i.size+i.size:=by rw[Nat.add_mul,Nat.one_mul]
 have bB:(l.map enc).flatten.length<=top:=by rw[oP];omega
 have qD:∀{k q:Nat} {s':AS},k∈(aZ q s').rd->k=q\/k∈s'.rd:=by
  intro k q s' h;unfold aZ at h;cases z:Nat.blt q s'.mark with
  |false=>rw[z] at h;exact .inr h
  |true=>rw[z] at h;rcases List.mem_cons.1 h with h|h;exact .inl h;exact .inr h
 have lY:∀(q:Nat) (s':AS),s'.mark=0->aZ q s'=s':=by intro q s' h;unfold aZ;rw[h,show Nat.blt q 0=false from by cases z:Nat.blt q 0 with|false=>rfl|true=>have:=(blt_eq _ _).mp z;omega]
 have Wf:∀(q:Nat) (s':AS),aZ q s'=⟨s'.h,s'.nx,s'.mark,(aZ q s').rd,s'.wr⟩:=by intro q s';unfold aZ;cases Nat.blt q s'.mark<;>rfl
 have hf:firstCells i.size 1 (.slice (some (m,0)) 1<|.known 1) s= .ok (enc c) (aZ m s):=by rw[LJ iH,Nat.one_mul];have hr:=CI (n:=m) (off:=0) (k:=i.size) (l:=enc c) (s:=s) eg hm (by rw[(xW c).1];omega) Eb (by rw[(xW c).1];omega);rw[hr,List.drop_zero, ←(xW c).1,List.take_length]
 let s1:AS:=⟨s.h,s.nx,s.mark,(aZ m s).rd,s.wr⟩;have ja:aZ m s=s1:=Wf m s;have Pf:∃rd,(∀k∈rd,k=n\/k∈s1.rd)/\(s.mark=0->rd=s1.rd)/\jd n 0 (l.length*i.size) s1= .ok (l.map enc).flatten ⟨s.h,s.nx,s.mark,rd,s.wr⟩:=by
  cases hk:l.length*i.size with
  |zero=>have:(l.map enc).flatten=[]:=List.eq_nil_of_length_eq_zero (by rw[oP,hk]);rw[this];exact⟨s1.rd,fun k h=>.inr h,fun _=>rfl,rfl⟩
  |succ k=>have hr:=CI (n:=n) (off:=0) (k:=k+1) (l:=(l.map enc).flatten) (s:=s1) eZ hn bB (Nat.succ_pos _) (by rw[oP,hk];omega);rw[List.drop_zero, ←hk, ←oP,List.take_length] at hr;rw[←hk, ←oP];exact⟨(aZ n s1).rd,fun k h=>qD h,fun zX=>by rw[lY n s1 zX],hr.trans<|congrArg _<|Wf n s1⟩
 obtain⟨gj,a1,a2,a3⟩:=Pf;have pG:∃rd wr,(∀k∈rd,k=n\/k∈s1.rd)/\(∀k∈wr,k=n\/k∈s.wr)/\(s.mark=0->rd=s1.rd/\wr=s.wr)/\
  ((bq n).bind fun ob=>aH ob.yL <| (bN n none).bind fun _=>grown i.size i.bytes (l.length+1) (l.map enc).flatten<|enc c) ⟨s.h,s.nx,s.mark,gj,s.wr⟩= .ok (.slice (some (s.nx,0)) (l.length+1)<|.aq (l.length+1) i.size) ⟨(s.h.put n none).put s.nx<|some<|aN enc<|l++[c],s.nx+1,s.mark,rd,wr⟩:=by
  rw[M.bQ<|md (s:=⟨s.h,s.nx,s.mark,gj,s.wr⟩) eZ hn];rw[show(aN enc l).yL=true from rfl,dC];obtain⟨b1,b2,b3⟩:=fQ n ⟨s.h,s.nx,s.mark,gj,s.wr⟩;rw[M.bQ<|yQ (o:=none) (p:=aN enc l) (s:=aZ n ⟨s.h,s.nx,s.mark,gj,s.wr⟩) (by rw[b2];exact eZ) (by rw[b1];exact hn) rfl (by rw[blt_eq];omega)];have PJ:(l.map enc).flatten++enc c=((l++[c]).map enc).flatten:=by simp
  unfold grown;rw[show(and (Nat.ble (2*(l.length+1)*i.bytes+4096*i.bytes) room)<|not<|Nat.beq i.bytes 0)=true from and_true.2 ⟨aM.2 tL,by rw[hb];rfl⟩,dC,PJ];have hw:∃rd wr,(∀k∈rd,k=n\/k∈s1.rd)/\(∀k∈wr,k=n\/k∈s.wr)/\(s.mark=0->rd=s1.rd/\wr=s.wr)/\fF n none (aZ n ⟨s.h,s.nx,s.mark,gj,s.wr⟩)=⟨s.h.put n none,s.nx,s.mark,rd,wr⟩:=by
   unfold fF aZ;cases q:Nat.blt n s.mark with
   |false=>refine⟨gj,s.wr,a1,fun k h=>.inr h,fun hm=>⟨a2 hm,rfl⟩,?_⟩;show(@Bool.rec (fun _=>AS) _ _<|Nat.blt n s.mark)=_;rw[q]
   |true=>
    refine⟨n::n::gj,n::s.wr,?_,?_,fun hm=>?_,?_⟩
    ·intro k h;rcases List.mem_cons.1 h with h|h
     ·exact .inl h
     ·rcases List.mem_cons.1 h with h|h
      ·exact .inl h
      ·exact a1 k h
    ·intro k h;rcases List.mem_cons.1 h with h|h
     ·exact .inl h
     ·exact .inr h
    ·rw[hm] at q;have:=(blt_eq _ _).mp q;omega
    ·show(@Bool.rec (fun _=>AS) _ _<|Nat.blt n s.mark)=_;rw[q]
  obtain⟨rd,wr,c1,c2,c3,c4⟩:=hw;rw[c4];refine⟨rd,wr,c1,c2,c3,?_⟩;have vP:=Iq (s:=⟨s.h.put n none,s.nx,s.mark,rd,wr⟩) (l:=((l++[c]).map enc).flatten) (by rw[oP];simpa using lf) (vN _) BK;exact(M.bQ vP).trans rfl
 obtain⟨rd,wr,d1,d2,d3,d4⟩:=pG;refine⟨rd,wr,fun k h=>?_,d2,fun h=>⟨(d3 h).1.trans (by show(aZ m s).rd=s.rd;rw[lY m s h]),(d3 h).2⟩,?_⟩
 ·rcases d1 k h with h|h
  ·exact .inl h
  ·exact .inr<|qD h
 show oo P .append ts [x,y] YO t s=_;unfold oo;have nH:jP (aI t) [x,y]=some [.slice (some (n,0)) l.length<|.aq l.length i.size,.slice (some (m,0)) 1<|.known 1]:=by simp only[jP,hx,hy]
 rw[nH,ch];show ph P ts (.slice (some (n,0)) l.length<|.aq l.length i.size) (.slice (some (m,0)) 1<|.known 1) s=_;unfold ph;rw[h0,ch];simp only[hu];rw[hi,ch,hz,dC];show((firstCells i.size 1<|.slice (some (m,0)) 1<|.known 1).bind fun new=>aH (Nat.beq new.length<|1*i.size) <| qY i.size i.bytes (some (n,0)) l.length (.aq l.length i.size) 1 new) s=_;rw[M.bQ hf,(xW c).1,Nat.one_mul,dT.2 rfl,dC,ja];show(aH (Nat.beq i.size i.size) <| match Nat.ble (l.length+1) l.length with
  |true=>match (some (n,0):Option<|Nat×Nat) with
   |some (m,o)=>(wN m (o+l.length*i.size)<|enc c).bind fun _=>M.pure (.slice (some (m,o)) (l.length+1)<|.aq l.length i.size)
   |none=>fail
  |false=>match (some (n,0):Option<|Nat×Nat) with
   |some (m,0)=>(jd m 0<|l.length*i.size).bind fun dz=>(bq m).bind fun o=>aH o.yL <| (bN m none).bind fun _=>grown i.size i.bytes (l.length+1) dz (enc c)
   |_=>fail) s1=_
 have GO:Nat.ble (l.length+1) l.length=false:=by
  cases q:Nat.ble (l.length+1) l.length with
  |false=>rfl
  |true=>have:=aM.1 q;omega
 rw[dT.2 rfl,dC];simp only[GO];rw[M.bQ a3,d4];simp
end
end Go.Rn
namespace Go.Rn
open Go.RowKit
variable {x i:Operand} {ty kt et:TypeId} {n:Nat} {k:Int}
section
variable {P:Program} {s s1:AS} {YO:aK} {t:Tr AV}
noncomputable def bL(m:List<|Int×Int):ab:=.jN<|da m
def lA:List (Int×Int)->Int->Bool
 |[],_=>false
 |p::l,k=>if p.1=k then true else lA l k
theorem TU(k:Int):∀(m:List<|Int×Int) (i:Nat),(lA m k=false/\kI (.int .i64 k) (da m) i=some none)\/∃j,lA m k=true/\kI (.int .i64 k) (da m) i=some (some (j,.int .i64<|getM m k))
 |[],i=>.inl ⟨rfl,rfl⟩
 |p::l,i=>by
  have hf:kI (.int .i64 k) (da<|p::l) i=(match some (k == p.1) with|none=>none|some true=>some (some (i,.int .i64 p.2))|some false=>kI (.int .i64 k) (da l)<|i+1):=rfl;by_cases e:p.1=k
  ·refine .inr ⟨i,by unfold lA;rw[if_pos e],?_⟩;rw[hf,show(k == p.1)=true by simp[e],show getM (p::l) k=p.2 by simp[getM,e]]
  ·have ct:(k == p.1)=false:=by simp;exact fun q=>e q.symm
   rw[hf,ct,show lA (p::l) k=lA l k by simp[lA,e],show getM (p::l) k=getM l k by simp[getM,e]];exact TU k l<|i+1
theorem afq{m:List<|Int×Int}(hx:aI t x=some (.map<|some n))(hi:aI t i=some (.int .i64 k))(hu:P.underlying ty=some (.map kt et))(hk:oJ P 10000 kt (.int .i64 k)=true)(hp:plainKey P kt (.int .i64 k)=true)(hz:qp P et=some (.int .i64 0))(hn:s.h.get n=some (bL m))(cU:Nat.blt n s.nx=true):(dI P<|.lookup ty x i true).val YO t s= .ok (.tuple [.int .i64 (if lA m k=true then getM m k else 0),.bool<|lA m k]) (aZ n s):=by
 show w8 P ty x i true YO t s=_;unfold w8;rw[hx,hi,ch,ch];unfold yN;simp only[hu];have hf:yX P kt (.int .i64 k) (.map<|some n) s= .ok (da m) (aZ n s):=by
  show((bq n).bind fun o=>match o with
   | .map es _=>M.pure es
   | .jN es=>aH (or (plainKey P kt<|.int .i64 k)<|short es) <| M.pure es
   |_=>fail) s=_
  rw[M.bQ<|md cU hn];show(aH (or (plainKey P kt<|.int .i64 k)<|short<|da m) <| M.pure<|da m) (aZ n s)=_;rw[hp,show(or true<|short<|da m)=true from rfl,dC];rfl
 rw[M.bQ hf,hk,dC];have QD:findKey P kt (.int .i64 k) (da m)=kI (.int .i64 k) (da m) 0:=by unfold findKey;simp only[uk,hp]
 rw[QD];rcases TU k m 0 with⟨h1,h2⟩|⟨j,h1,h2⟩
 ·rw[h2,ch,h1];show(aC (qp P et) fun z=>M.pure<|zV true z false) (aZ n s)=_;rw[hz,ch];rfl
 ·rw[h2,ch,h1];rfl
theorem afr{y:Operand}{v:Int}{m:List<|Int×Int}(hx:aI t x=some (.map<|some n))(hi:aI t i=some (.int .i64 k))(hy:aI t y=some (.int .i64 v))(hu:P.underlying ty=some (.map kt et))(hk:oJ P 10000 kt (.int .i64 k)=true)(hp:plainKey P kt (.int .i64 k)=true)(hn:s.h.get n=some (bL m))(q1:Nat.blt n s.nx=true)(q2:Nat.blt n top=true):(dI P<|.mapUpdate ty x i y).val YO t s= .ok (.tuple []) (fF n (some<|bL<|gA m k v)<|aZ n s):=by
 show qf P ty x i y YO t s=_;unfold qf;rw[hx,hi,hy,ch,ch,ch];have w:∀o:ab,bN n (some o) (aZ n s)= .ok () (fF n (some o)<|aZ n s):=fun o=>yQ (by rw[(fQ n s).2.1];exact q1) (by rw[(fQ n s).1];exact hn) rfl q2;have aiO:xh P ty (.map<|some n) (.int .i64 k) (.int .i64 v) s= .ok () (fF n (some<|bL<|gA m k v)<|aZ n s):=by
  unfold xh;simp only[hu];rw[M.bQ<|md q1 hn];show(aH (and (plainKey P kt<|.int .i64 k)<|oJ P 10000 kt<|.int .i64 k) <| aC (findKey P kt (.int .i64 k)<|da m) fun f=>AB n (.int .i64 k) (.int .i64 v) (da m) f) (aZ n s)=_;rw[hk,hp,show(and true true)=true from rfl,dC];have QD:findKey P kt (.int .i64 k) (da m)=kI (.int .i64 k) (da m) 0:=by unfold findKey;simp only[uk,hp]
  rw[QD];rcases TO k m 0 with⟨h1,_,h3⟩|⟨j,z,h1,_,h3,h4⟩
  ·rw[h1,ch];show bN n (some<|.jN<|da m++[(.int .i64 k,.int .i64 v)]) (aZ n s)=_;rw[w,h3 v];simp only[bL,da,List.map_append,List.map_cons,List.map_nil]
  ·rw[h1,ch];show bN n (some<|.jN<|putAt (da m) (0+j) (.int .i64 k)<|.int .i64 v) (aZ n s)=_;rw[Nat.zero_add,w,(h4 v).1];rfl
 rw[M.bQ aiO];rfl
end
end Go.Rn
namespace Go.Rn
open Go.RowKit
variable {n k:Nat} {l L2 L1:List AV} {y x:Operand} {ty e:TypeId} {ts:Array TypeId} {i:TypeInfo} {rN:cC}
section
variable {P:Program} {s:AS} {YO:aK} {t:Tr AV}
theorem S7{s:AS}(h1:Nat.blt n s.nx=true)(h2:s.h.get n=some (.cells l.length (Tr.fill l 0 .nil) []))(hl:l.length<=top)(hk:k<=l.length):
 ∃rd,(∀x∈rd,x=n\/x∈s.rd)/\(s.mark=0->rd=s.rd)/\jd n 0 k s= .ok (l.take k) ⟨s.h,s.nx,s.mark,rd,s.wr⟩:=by
 cases k with
 |zero=>exact⟨s.rd,fun x h=>.inr h,fun _=>rfl,rfl⟩
 |succ k=>
  have hr:=CI (n:=n) (off:=0) (k:=k+1) (l:=l) (s:=s) h1 h2 hl (Nat.succ_pos _) aj;rw[List.drop_zero] at hr;refine⟨(aZ n s).rd,?_,fun hm=>?_,?_⟩
  ·intro k h;unfold aZ at h;cases q:Nat.blt n s.mark with
   |false=>rw[q] at h;exact .inr h
   |true=>rw[q] at h;rcases List.mem_cons.1 h with h|h;exact .inl h;exact .inr h
  ·unfold aZ;rw[hm,show Nat.blt n 0=false from by cases q:Nat.blt n 0 with|false=>rfl|true=>have:=(blt_eq _ _).mp q;omega]
  ·rw[hr];congr 1;unfold aZ;cases Nat.blt n s.mark<;>rfl
theorem afs{m len:Nat}(hx:aI t x=some (.slice (some (n,0)) len<|.known len))(hy:aI t y=some (.slice (some (m,0)) k rN))(h0:ts[0]? =some ty)(hu:P.underlying ty=some (.slice e))(hi:P.info? e=some i)(hz:and (sQ i) (pj P ts[1]?)=true)(hk:1<=k)(hn:s.h.get n=some (.cells L1.length (Tr.fill L1 0 .nil) []))(hm:s.h.get m=some (.cells L2.length (Tr.fill L2 0 .nil) []))(KX:L1.length<=top)(yg:L2.length<=top)(h1:len*i.size<=L1.length)(h2:k*i.size<=L2.length)(he:L1.take (len*i.size)++L2.take (k*i.size)=l)(cU:(Nat.blt n s.nx&&(Nat.blt m s.nx&&Nat.blt s.nx top))=true)(vN:l.all AV.cf=true)(hb:Nat.beq i.bytes 0=false)(tL:2*(len+k)*i.bytes+4096*i.bytes<=room)(lf:l.length<=top):
 ∃rd wr,(∀q∈rd,q=n\/q=m\/q∈s.rd)/\(∀q∈wr,q∈s.wr)/\(s.mark=0->rd=s.rd/\wr=s.wr)/\(dI P<|.call ⟨.builtin .append, #[x,y],ts⟩).val YO t s= .ok (.slice (some (s.nx,0)) (len+k)<|.aq (len+k) i.size) ⟨s.h.put s.nx<|some<|.cells l.length (Tr.fill l 0 .nil) [],s.nx+1,s.mark,rd,wr⟩:=by
 obtain⟨eZ,cU⟩:=and_true.1 cU;obtain⟨eg,Cj⟩:=and_true.1 cU;have BK:=(blt_eq _ _).mp Cj;have hf:firstCells i.size k (.slice (some (m,0)) k rN) s=jd m 0 (k*i.size) s:=by
  cases k with
  |zero=>omega
  |succ k=>cases rN<;>rfl
 obtain⟨gj,a1,a2,a3⟩:=S7 eg hm yg h2;obtain⟨zW,b1,b2,b3⟩:=S7 (s:=⟨s.h,s.nx,s.mark,gj,s.wr⟩) eZ hn KX h1;refine⟨zW,s.wr,fun q hq=>?_,fun q hq=>hq,fun zX=>⟨(b2 zX).trans<|a2 zX,rfl⟩,?_⟩
 ·rcases b1 q hq with h|h
  ·exact .inl h
  ·exact .inr<|a1 q h
 show oo P .append ts [x,y] YO t s=_;unfold oo;have nH:jP (aI t) [x,y]=some [.slice (some (n,0)) len<|.known len,.slice (some (m,0)) k rN]:=by simp only[jP,hx,hy]
 rw[nH,ch];show ph P ts (.slice (some (n,0)) len<|.known len) (.slice (some (m,0)) k rN) s=_;unfold ph;rw[h0,ch];simp only[hu];rw[hi,ch,hz,dC];show(aC (some k) fun Ck=>(firstCells i.size Ck<|.slice (some (m,0)) k rN).bind fun new=>aH (Nat.beq new.length<|Ck*i.size) <| qY i.size i.bytes (some (n,0)) len (.known len) Ck new) s=_;rw[ch,M.bQ<|hf.trans a3];have Pg:(L2.take<|k*i.size).length=k*i.size:=by rw[List.length_take];omega
 rw[Pg,dT.2 rfl,dC];unfold qY;have GO:Nat.ble (len+k) len=false:=by cases q:Nat.ble (len+k) len with|false=>rfl|true=>have:=aM.1 q;omega
 simp only[GO];have QE:firstCells i.size len (.slice (some (n,0)) len<|.known len) ⟨s.h,s.nx,s.mark,gj,s.wr⟩=jd n 0 (len*i.size) ⟨s.h,s.nx,s.mark,gj,s.wr⟩:=by cases len<;>rfl
 rw[M.bQ<|QE.trans b3];unfold grown;rw[show(and (Nat.ble (2*(len+k)*i.bytes+4096*i.bytes) room)<|not<|Nat.beq i.bytes 0)=true from and_true.2 ⟨aM.2 tL,by rw[hb];rfl⟩,dC,he];have vP:=Iq (s:=⟨s.h,s.nx,s.mark,zW,s.wr⟩) (l:=l) lf vN BK;exact(M.bQ vP).trans rfl
noncomputable def oY(o:ab)(s:AS):AS:=⟨s.h.put s.nx<|some o,s.nx+1,s.mark,s.rd,s.wr⟩
theorem aft{m len:Nat}(hx:aI t x=some (.slice (some (n,0)) len<|.known len))(hy:aI t y=some (.slice (some (m,0)) k rN))(h0:ts[0]? =some ty)(hu:P.underlying ty=some (.slice e))(hi:P.info? e=some i)(hz:and (sQ i) (pj P ts[1]?)=true)(hlen:1<=len)(hk:1<=k)(hs:1<=i.size)(hn:s.h.get n=some (.cells L1.length (Tr.fill L1 0 .nil) []))(hm:s.h.get m=some (.cells L2.length (Tr.fill L2 0 .nil) []))(KX:L1.length<=top)(yg:L2.length<=top)(h1:len*i.size<=L1.length)(h2:k*i.size<=L2.length)(he:L1.take (len*i.size)++L2.take (k*i.size)=l)(cU:(Nat.blt n s.nx&&(Nat.blt m s.nx&&Nat.blt s.nx top))=true)(vN:l.all AV.cf=true)(hb:Nat.beq i.bytes 0=false)(tL:2*(len+k)*i.bytes+4096*i.bytes<=room)(lf:l.length<=top):
 (dI P<|.call ⟨.builtin .append, #[x,y],ts⟩).val YO t s= .ok (.slice (some (s.nx,0)) (len+k)<|.aq (len+k) i.size) (oY (.cells l.length (Tr.fill l 0 .nil) [])<|aZ n<|aZ m s):=by
 obtain⟨eZ,cU⟩:=and_true.1 cU;obtain⟨eg,Cj⟩:=and_true.1 cU;have BK:=(blt_eq _ _).mp Cj;have hf:firstCells i.size k (.slice (some (m,0)) k rN) s=jd m 0 (k*i.size) s:=by
  cases k with
  |zero=>omega
  |succ k=>cases rN<;>rfl
 have p1:0<k*i.size:=Nat.mul_pos aj aj;have p2:0<len*i.size:=Nat.mul_pos aj aj;have a3:=CI (n:=m) (off:=0) (k:=k*i.size) (l:=L2) (s:=s) eg hm yg p1 aj;have b3:=CI (n:=n) (off:=0) (k:=len*i.size) (l:=L1) (s:=aZ m s) (by rw[(fQ m s).2.1];exact eZ) (by rw[(fQ m s).1];exact hn) KX p2 aj;rw[List.drop_zero] at a3 b3;show oo P .append ts [x,y] YO t s=_;unfold oo;have nH:jP (aI t) [x,y]=some [.slice (some (n,0)) len<|.known len,.slice (some (m,0)) k rN]:=by simp only[jP,hx,hy]
 rw[nH,ch];show ph P ts (.slice (some (n,0)) len<|.known len) (.slice (some (m,0)) k rN) s=_;unfold ph;rw[h0,ch];simp only[hu];rw[hi,ch,hz,dC];show(aC (some k) fun Ck=>(firstCells i.size Ck<|.slice (some (m,0)) k rN).bind fun new=>aH (Nat.beq new.length<|Ck*i.size) <| qY i.size i.bytes (some (n,0)) len (.known len) Ck new) s=_;rw[ch,M.bQ<|hf.trans a3];have Pg:(L2.take<|k*i.size).length=k*i.size:=by rw[List.length_take];omega
 rw[Pg,dT.2 rfl,dC];unfold qY;have GO:Nat.ble (len+k) len=false:=by cases q:Nat.ble (len+k) len with|false=>rfl|true=>have:=aM.1 q;omega
 simp only[GO];have QE:firstCells i.size len (.slice (some (n,0)) len<|.known len) (aZ m s)=jd n 0 (len*i.size) (aZ m s):=by
  cases len with
  |zero=>omega
  |succ k=>rfl
 rw[M.bQ<|QE.trans b3];unfold grown;rw[show(and (Nat.ble (2*(len+k)*i.bytes+4096*i.bytes) room)<|not<|Nat.beq i.bytes 0)=true from and_true.2 ⟨aM.2 tL,by rw[hb];rfl⟩,dC,he];have cQ:(aZ n<|aZ m s).nx=s.nx:=by rw[(fQ n _).2.1,(fQ m _).2.1]
 have vP:=Iq (s:=aZ n<|aZ m s) (l:=l) lf vN (by rw[cQ];exact BK);rw[cQ] at vP;refine(M.bQ vP).trans ?_;unfold oY;rw[cQ];rfl
end
end Go.Rn
