import Derived.Test.YthjiifomjmdjbaaGreatDoorRnGD
import Derived.CheckFast
import Derived.Lib.Join
import Derived.Lib.ItoaNum
import Derived.LaidMore
import Derived.LaidHandle
import Derived.Lib.LaidTab
import Derived.Sort.Grow
import Derived.Deep.Draws
set_option maxRecDepth 100000
set_option maxHeartbeats 8000000
set_option linter.unusedSimpArgs false
set_option linter.unusedVariables false
namespace Go.Rn
open Go.RowKit
section
variable {P:Program} {B:aJ} {ρ:aw} {w:World} {s s1:AS} {Ye:aI}
theorem Yy{g:FuncId}{fn:Func}{body:Code}{args:List AV}{vs:Array Value}{fr:AF}{j:Option Code}{s2 s3:AS}{x:AV}(cm:P.funcs[g]? =some fn)(cv:fn.body=some body)(zU:bx s2)(hw:∀cs:List Frame,nG P B ρ s s2 w ⟨g,eh args,max fn.ntmps args.length,[.code body],[],none⟩ {(default:Frame) with fn:=g,kind:=.normal,roundOf:=none} cs
 (lone (({(default:Frame) with fn:=g,kind:=.normal,roundOf:=none}:Frame).atR {tmps:=vs++Array.replicate (fn.ntmps - vs.size) undef,defers:=[]} [.code body]) cs w) (.leave fr j))(pq:finish P fn.results.toList fr j s2= .ok x s3):Calls P g vs w fun e w'=>∃v,e= .returned v/\kh B ρ s s3 w x v w':=by
 intro cs;let b:Frame:={(default:Frame) with fn:=g,kind:=.normal,roundOf:=none};let a:Act:={tmps:=vs++Array.replicate (fn.ntmps - vs.size) undef,defers:=[]};have sQ:Frame.enter P g vs .normal=b.atR a [.code body]:=by simp[Frame.enter,Frame.atR,cm,cv,b,a]
 obtain⟨σ,a',w',e1,e2,e3,e4,⟨e5,B4,ahV⟩,e6,e7,e8⟩:=hw cs;obtain⟨hj,u2,s4,rs,h7,h9,hx⟩:=Hy pq;have mU:bx s4:=(Yd.oh _).cJ zU h7;have nj:Leaves j fr.todo:=e7;obtain⟨d1,d2,w2,d3,d4,d5⟩:=EG (P:=P) (fr:=b) (cs:=cs) zU e2.rel e3 h7;obtain⟨f1,f2,us,f3,f4⟩:=EF (P:=P) (w:=w2) e2.tr mU d3 h9;have BA:Steps P (lone (b.atR a' fr.todo) cs w')<|lone {b.atR a' fr.todo with mode:=.returning} cs w':=by
  rcases hj with rfl|rfl
  ·have e:fr.todo=[]:=nj;rw[e];exact .one<|stepR_end rfl
  ·obtain⟨k,e⟩:=nj;rw[e];exact .one<|stepR_ret rfl
 have tA:=d5 {b.atR a' fr.todo with mode:=.returning} cs iJ rfl;have kD:(results fn a'.tmps).run P w2= .ok (mg us) w2:=by
  unfold results;rw[Array.mapM_eq_mapM_toList];simp only[Sem.run_bind,map_eq_pure_bind,Sem.run_pure];refine Eq.trans (congrArg (fun r:Result (List Value)=>(r.andThen fun a w'=>Result.ok a.toArray w').andThen fun a w'=>Result.ok (if h:a.size=1 then a[0] else Value.tuple a) w') f3) ?_;have:∀l:List Value,(Result.ok (if h:l.toArray.size=1 then l.toArray[0] else Value.tuple l.toArray) w2:Result Value)= .ok (mg l) w2:=by
   intro l
   match l with
   |[]=>rfl
   |[v]=>rfl
   |v::v2::l=>simp[mg]
  exact this us
 refine⟨.returned<|mg us,w2,{b.atR a' fr.todo with mode:=.returning,defers:=[]},⟨_,rfl,?_⟩,?_,rfl,?_⟩
 ·exact⟨σ,by rw[show s3.nx=s2.nx by rw[f2,d1]];exact e1,by rw[hx];exact HK f4,by rw[f1];exact d3,e4.trans d4⟩
 ·rw[sQ];exact Steps.trans e8<|Steps.trans BA tA
 ·exact⟨rfl,rfl,rfl,fn,cm,kD⟩
end
end Go.Rn
namespace Go.Rn
open Go.RowKit
noncomputable section
end
section
variable {P:Program} {Ye:aI}
end
end Go.Rn
namespace Go.Rn
open Go.RowKit
variable {k o n:Nat} {x:AV} {aT:AF} {f:FuncId} {vs:Array Value} {j:Option Code} {fn:Func} {body:Code} {args:List AV} {F:Nat->Option (List AV)}
noncomputable section
def br.Uc:br->Bool
 | .go _=>false
 | .leave _ _=>true
def o6(P:Program)(Ye:aI)(fr:AF):M br:=fun s=> @dite (R br) (∃k,∃x s1,dW P Ye k fr s= .ok x s1/\x.Uc=true) (Classical.propDecidable _) (fun h=>dW P Ye h.choose fr s) fun _=>.bad
def uM(P:Program)(f ntmps:Nat)(rs:List ResultVar)(body:Code)(Ye:aI)(args:List AV):M AV:=
 aF (Nat.ble (max ntmps args.length) top) <|
 (o6 P Ye ⟨f,eh args,max ntmps args.length,[.code body],[],none⟩).bind fun st=> @br.rec (fun _=>M AV) (fun _=>fail) (fun fr j=>finish P rs fr j) st
def wv(P:Program)(Ye:aI)(l:Nat)(args:List AV):M AV:=(getLoop l).bind fun o=>match o with
 | .loop _ _ fn t nt ps a b _=>
  aF (and (Nat.beq args.length ps.length)<|ps.all fun p=>Nat.blt p nt) <|
  (o6 P Ye ⟨fn,jB ps args t,nt,[.code a,.beginRound,.code b],[],some l⟩).bind fun st=> @br.rec (fun _=>M AV) (fun _=>fail) (fun _ j=>endRound l j) st
 |_=>fail
abbrev Sp:=FuncId->Option (aI->List AV->M AV)
def ko(P:Program)(sp:Sp)(f:FuncId):aI->List AV->M AV:=
 match sp f with
 |some m=>m
 |none=>match P.funcs[f]? with
  |none=>fun _ _=>fail
  |some fn=>match fn.body with
   |none=>fun _ _=>fail
   |some body=>match fn.name == "runtime.NumGoroutine" with
    |true=>fun _ _=>fail
    |false=>uM P f fn.ntmps fn.results.toList body
def qz(F:Nat->Option (List AV))(n o k:Nat):M AV:=aA (F n) fun l=>aF (Nat.ble (o+k) l.length) <| M.pure<|.agg<|(l.drop o).take k
def bg(P:Program)(sp:Sp)(F:Nat->Option (List AV)):Nat->aI
 |0=>fun t _=>match t with
  | .row n o k=>qz F n o k
  |_=>fail
 |n+1=>fun t args=>match t with
  | .fn f=>ko P sp f (bg P sp F n) args
  | .round l=>wv P (bg P sp F n) l args
  | .row n o k=>qz F n o k
end
section
variable {P:Program} {B:aJ} {ρ:aw} {w:World} {s s1:AS} {Ye:aI} {b:Frame} {a:Act} {cs:List Frame}
theorem Sq{fr:AF}:dW P Ye (k+1) fr s=((jg P Ye fr).bind fun x=> @br.rec (fun _=>M br) (dW P Ye k) (fun fr j=>M.pure<|.leave fr j) x) s:=rfl
theorem AL{fr:AF}(h:jg P Ye fr s= .ok (.go aT) s1):dW P Ye (k+1) fr s=dW P Ye k aT s1:=by rw[Sq,M.bK h]
theorem abw{fr:AF}(h:jg P Ye fr s= .ok (.leave aT j) s1):dW P Ye (k+1) fr s= .ok (.leave aT j) s1:=by rw[Sq,M.bK h];rfl
theorem Me:∀{k k':Nat} {fr aT:AF} {j:Option Code} {s s1:AS},dW P Ye k fr s= .ok (.leave aT j) s1->k<=k'->dW P Ye k' fr s= .ok (.leave aT j) s1
 |0,_,_,_,_,_,_,h,_=>by cases h
 |k+1,0,_,_,_,_,_,_,hk=>by omega
 |k+1,k'+1,fr,aT,j,s,s1,h,hk=>by
  obtain⟨y,s2,h1,h2⟩:=M.aP (show((jg P Ye fr).bind fun x=> @br.rec (fun _=>M br) (dW P Ye k) (fun fr j=>M.pure<|.leave fr j) x) s= .ok _ s1 from h);cases y with
  |go nW=>rw[AL h1];exact Me (show dW P Ye k nW s2=_ from h2) aj
  |leave nW j'=>rw[abw h1];exact h2
theorem HL{fr:AF}(h:dW P Ye k fr s= .ok (.leave aT j) s1):o6 P Ye fr s= .ok (.leave aT j) s1:=by
 have hex:∃k,∃x s1,dW P Ye k fr s= .ok x s1/\x.Uc=true:=⟨k,_,_,h,rfl⟩;unfold o6;rw[dif_pos hex];obtain⟨x,s2,h1,h2⟩:=hex.choose_spec;cases x with
 |go _=>cases h2
 |leave jY j2=>have e1:=Me h1<|Nat.le_max_left hex.choose k;have e2:=Me h<|Nat.le_max_right hex.choose k;rw[e1] at e2;rw[h1,e2]
theorem RK{fr:AF}{x:br}(h:o6 P Ye fr s= .ok x s1):∃k aT j,x= .leave aT j/\dW P Ye k fr s= .ok (.leave aT j) s1:=by
 unfold o6 at h;split at h
 ·rename_i hex;obtain⟨y,s2,h1,h2⟩:=hex.choose_spec;cases y with
  |go _=>cases h2
  |leave jY j2=>rw[h1] at h;cases h;exact⟨_,jY,j2,rfl,h1⟩
 ·cases h
theorem Yd.o6(P:Program){Ye:aI}(hl:∀t a,Yd<|Ye t a)(fr:AF):Yd<|o6 P Ye fr:=by intro s v s1 fi h;obtain⟨k,aT,j,rfl,h1⟩:=RK h;obtain⟨dr,dw,d,al⟩:=Yd.dW P hl k fr s _ s1 fi h1;refine⟨dr,dw,d,fun A m0 t ag hA=>?_⟩;obtain⟨t1,e1,e2⟩:=al A m0 t ag hA;exact⟨t1,HL e1,e2⟩
theorem Yd.uM(P:Program)(f n:Nat)(rs:List ResultVar)(body:Code){Ye:aI}(bC:∀t a,Yd<|Ye t a)(args:List AV):Yd<|uM P f n rs body Ye args:=
 Yd.aF (fun _=>Yd.bind (Yd.o6 P bC _) (fun x=>by
  cases x with
  |go fr=>exact Yd.fail
  |leave fr j=>exact Yd.finish P rs fr j))
theorem Yd.wv(P:Program){Ye:aI}(bC:∀t a,Yd<|Ye t a)(l:Nat)(args:List AV):Yd<|wv P Ye l args:=by
 unfold Rn.wv;refine Yd.bind (Yd.getLoop _) fun o=>?_;split
 ·exact Yd.aF fun _=>Yd.bind (Yd.o6 P bC _) (fun x=>by
   cases x with
   |go fr=>exact Yd.fail
   |leave fr j=>exact Yd.endRound l j)
 ·exact Yd.fail
structure J9 (P:Program) (B:aJ) (sp:Sp):Prop where
 loc:∀f m,sp f=some m->∀Ye:aI,(∀t a,Yd<|Ye t a)->∀args,Yd<|m Ye args
 Ei:∀f m,sp f=some m->∀Ye:aI,fQ P B Ye->(∀t a,Yd<|Ye t a)->∀(args:List AV) (x:AV) (s s1:AS) (ρ:aw) (w:World) (vs:Array Value),bx s->Rel B ρ s.h w->gd ρ->dE s.nx s1.nx ρ->
  m Ye args s= .ok x s1->ay ρ args vs.toList->jo P ((callFunc f vs).run P w) (kh B ρ s s1 w x)
theorem uN{sp:Sp}{m:aI->List AV->M AV}(h:sp f=some m):ko P sp f=m:=by unfold ko;rw[h]
theorem MU{sp:Sp}(h:sp f=none)(cm:P.funcs[f]? =some fn)(cv:fn.body=some body)(dJ:(fn.name == "runtime.NumGoroutine")=false):ko P sp f=uM P f fn.ntmps fn.results.toList body:=by unfold ko;simp only[h,cm,cv,dJ]
theorem Sr(sp:Sp)(f:FuncId):(∃m,sp f=some m/\ko P sp f=m)\/(ko P sp f=fun _ _=>fail)\/(∃fn body,P.funcs[f]? =some fn/\fn.body=some body/\(fn.name == "runtime.NumGoroutine")=false/\ko P sp f=uM P f fn.ntmps fn.results.toList body):=by
 cases e:sp f with
 |some m=>exact .inl ⟨m,rfl,uN e⟩
 |none=>
  cases e1:P.funcs[f]? with
  |none=>refine .inr<|.inl ?_;unfold ko;simp only[e,e1]
  |some fn=>
   cases e2:fn.body with
   |none=>refine .inr<|.inl ?_;unfold ko;simp only[e,e1,e2]
   |some body=>
    cases e3:(fn.name == "runtime.NumGoroutine") with
    |true=>refine .inr<|.inl ?_;unfold ko;simp only[e,e1,e2,e3]
    |false=>exact .inr<|.inr ⟨fn,body,rfl,e2,e3,MU e e1 e2 e3⟩
theorem aap(P:Program){sp:Sp}(hs:J9 P B sp)(f:FuncId){Ye:aI}(hl:∀t a,Yd<|Ye t a)(args:List AV):Yd<|ko P sp f Ye args:=by
 rcases Sr (P:=P) sp f with⟨m,e1,e2⟩|e|⟨fn,body,e1,e2,e3,e⟩
 ·rw[e2];exact hs.loc f m e1 Ye hl args
 ·rw[e];exact Yd.fail
 ·rw[e];exact Yd.uM P _ _ _ _ hl _
theorem Yd.qz(F:Nat->Option (List AV))(n o k:Nat):Yd<|qz F n o k:=Yd.aA fun _ _=>Yd.aF fun _=>Yd.pure _
theorem Cw(P:Program){sp:Sp}(hs:J9 P B sp)(F:Nat->Option (List AV)):∀(n:Nat) (t:GG) (args:List AV),Yd (bg P sp F n t args)
 |0,.fn _,_=>Yd.fail
 |0,.round _,_=>Yd.fail
 |0,.row n o k,_=>Yd.qz F n o k
 |n+1,.fn f,args=>aap P hs f (fun t a=>Cw P hs F n t a) args
 |n+1,.round l,args=>Yd.wv P (fun t a=>Cw P hs F n t a) l args
 |_+1,.row n o k,_=>Yd.qz F n o k
theorem U8{ρ:aw}{c:Array Value}:∀{l:List AV} {off:Nat},(∀(i:Nat) (x:AV),l[i]? =some x->∃v,c[off+i]? =some v/\VR ρ x v)->∃vs:List Value,vs.length=l.length/\ay ρ l vs/\∀(j:Nat) (v:Value),vs[j]? =some v->c[off+j]? =some v
 |[],off,_=>⟨[],rfl,by simp only[ay],fun j v h=>by simp at h⟩
 |x::l,off,h=>by
  obtain⟨v,h1,h2⟩:=h 0 x rfl;obtain⟨vs,g1,g2,g3⟩:=U8 (l:=l) (off:=off+1) (fun i y hy=>by obtain⟨u,k1,k2⟩:=h (i+1) y (by simpa using hy);exact⟨u,by rw[Nat.add_assoc,Nat.add_comm 1 i];exact k1,k2⟩);refine⟨v::vs,by simp[g1],by simp only[ay];exact⟨v,vs,rfl,h2,g2⟩,fun j u hj=>?_⟩;cases j with
  |zero=>simp at hj;subst hj;simpa using h1
  |succ j=>have:=g3 j u (by simpa using hj);rw[Nat.add_assoc,Nat.add_comm 1 j] at this;exact this
theorem abx(h:qz F n o k s= .ok x s1):s1=s/\∃l,F n=some l/\o+k<=l.length/\x= .agg ((l.drop o).take k):=by unfold qz at h;obtain⟨l,h1,h2⟩:=bt h;obtain⟨h3,h4⟩:=cW h2;obtain⟨rfl,rfl⟩:=bD h4;exact⟨rfl,l,h1,aL.1 h3,rfl⟩
theorem Tf(hF:B.F=F)(r:Rel B ρ s.h w)(h:qz F n o k s= .ok x s1):
 s1.h=s.h/\s1.nx=s.nx/\∀b sh,ρ (hn n b sh)≠none->∃l vs,x= .agg l/\vs.length=k/\ay ρ l vs/\∃c e fr,w.heap[b]? =some (.cells c e fr)/\∀(j:Nat) (v:Value),vs[j]? =some v->c[sh+o+j]? =some v:=by
 obtain⟨rfl,l,h1,h2,rfl⟩:=abx h;rw[←hF] at h1;refine⟨rfl,rfl,fun b sh hb=>?_⟩;obtain⟨_,l',c,e,fr,g1,g2,_,g4⟩:=r.fz n b sh hb;rw[h1] at g1;cases g1;obtain⟨vs,q1,q2,q3⟩:=U8 (ρ:=ρ) (c:=c) (l:=(l.drop o).take k) (off:=sh+o) (fun i y hy=>by
  have vM:l[o+i]? =some y:=by
   rw[List.getElem?_take] at hy;split at hy
   ·rw[List.getElem?_drop] at hy;exact hy
   ·cases hy
  obtain⟨v,k1,k2,_⟩:=g4 (o+i) y vM;exact⟨v,by rw[Nat.add_assoc];exact k1,VR.mono (IY ρ) _ _ k2⟩)
 refine⟨_,vs,rfl,?_,q2,c,e,fr,g2,q3⟩;rw[q1,List.length_take,List.length_drop];omega
theorem RL(bV:P.follows .mixedOrders=true)(hc:fQ P B Ye)(hl:∀t a,Yd<|Ye t a){af:AF}{x:br}(bM:Fr ρ af b a)(aD:At B ρ s af.nt af.tmps w a)(hf:dE s.nx s1.nx ρ)(h:o6 P Ye af s= .ok x s1):nG P B ρ s s1 w af b cs (lone (b.atR a af.todo) cs w) x:=by obtain⟨k,aT,j,rfl,h1⟩:=RK h;exact HZ bV hc hl k bM aD hf h1
theorem aaq(bV:P.follows .mixedOrders=true)(hc:fQ P B Ye)(hl:∀t a,Yd<|Ye t a)(cm:P.funcs[f]? =some fn)(cv:fn.body=some body)(dJ:(fn.name == "runtime.NumGoroutine")=false)(dz:iu body)(fi:bx s)(r:Rel B ρ s.h w)(hg:gd ρ)(hf:dE s.nx s1.nx ρ)(h:uM P f fn.ntmps fn.results.toList body Ye args s= .ok x s1)(hv:ay ρ args vs.toList):jo P ((callFunc f vs).run P w)<|kh B ρ s s1 w x:=by
 have bC:(callFunc f vs).run P w= .ok (.enter f vs) w:=by
  have FX:(program).run P w= .ok P w:=rfl;have hn:fn.name≠ "runtime.NumGoroutine" :=by simpa using dJ
  simp only[callFunc,Sem.run_bind,FX,Result.andThen_ok,cm,dJ,cv];simp
 rw[bC];unfold uM at h;obtain⟨h1,h2⟩:=cW h;have oH:=aL.1 h1;obtain⟨y,s2,h3,h4⟩:=M.aP h2;cases y with
 |go fr=>cases h4
 |leave fr j=>have KG:finish P fn.results.toList fr j s2= .ok x s1:=h4;have eF:=(Yd.o6 P hl ⟨f,eh args,max fn.ntmps args.length,[.code body],[],none⟩).cJ fi h3;have GU:=(Yd.finish P fn.results.toList fr j).le eF KG;exact Yy cm cv eF (fun cs=>RL (b:={(default:Frame) with fn:=f,kind:=.normal,roundOf:=none}) (a:={tmps:=vs++Array.replicate (fn.ntmps - vs.size) undef,defers:=[]}) bV hc hl ⟨rfl,rfl,trivial,rfl,.cons dz .nil⟩ ⟨Hk hv _ oH,r,hg,oH,fi⟩ (hf.sub (Nat.le_refl _) GU) h3) KG
theorem ZB(bV:P.follows .mixedOrders=true)(hc:fQ P B Ye)(hl:∀t a,Yd<|Ye t a){l bl N:Nat}(fi:bx s)(r:Rel B ρ s.h w)(hg:gd ρ)(hf:dE s.nx s1.nx ρ)(h:wv P Ye l args s= .ok x s1)(hv:ay ρ args vs.toList)(B3:ρ l=some (bl,N)):jo P ((Instr.yield bl vs).run P w)<|kh B ρ s s1 w x:=by
 unfold wv at h;obtain⟨o,s2,h1,h2⟩:=M.aP h;obtain⟨h3,st,bL,fn,t,nt,ps,aa,bb,d,rfl⟩:=Cv h1;obtain⟨h4,h5⟩:=cW h2;obtain⟨y,s3,h6,h7⟩:=M.aP h5;obtain⟨q1,q2⟩:=and_true.1 h4;have hlen:=eg.1 q1;have P3:∀p∈ps,p<nt:=fun p hp=>by have:=List.all_eq_true.1 q2 p hp;rw[←blt_eq];exact this
 obtain⟨hx,ki,hh,cM⟩:=fY h3;have eF:bx s2:=(Yd.bp _).cJ fi h3;have bJ:l<top:=Nat.lt_of_lt_of_le hx fi.nx;obtain⟨o',hb,hO,hB⟩:=r.block bJ ki B3;obtain⟨ta,db,M,rfl,yb,iZ,hd,gF⟩:=hO;have NX:(Instr.yield bl vs).run P w= .ok (.round bl fn ((ps.zip vs.toList).foldl (fun tmps (t,a)=>tmps.setIfInBounds t a) ta) aa bb) w:=by
  have ll:¬(vs.size≠ps.toArray.size):=by have:=hv.length;simp at this ⊢;omega
  simp only[Instr.yield,Sem.run_bind,Cs hb,Result.andThen_ok,if_neg ll,Sem.run_pure];rw[←Array.foldl_toList];simp
 rw[NX];intro c cs;cases y with
 |go fr=>cases h7
 |leave fr j=>
  have BZ:endRound l j s3= .ok x s1:=h7;let b:Frame:={(default:Frame) with fn:=fn,kind:=.normal,roundOf:=some bl};let a:Act:={tmps:=(ps.zip vs.toList).foldl (fun tmps (t,a)=>tmps.setIfInBounds t a) ta,defers:=[]};have lG:=(Yd.o6 P hl ⟨fn,jB ps args t,nt,[.code aa,.beginRound,.code bb],[],some l⟩).cJ eF h6;have GV:=(Yd.endRound l j).le lG BZ;have bM:Fr ρ ⟨fn,jB ps args t,nt,[.code aa,.beginRound,.code bb],[],some l⟩ b a:=⟨rfl,rfl,⟨N,B3⟩,rfl,.cons gF.assign<|.cons trivial<|.cons gF.body .nil⟩;have aD:At B ρ s2 nt (jB ps args t) w a:=⟨Lp iZ yb hv P3,by rw[hh];exact r,hg,iZ,eF⟩;obtain⟨σ,a',w',e1,e2,e3,e4,_,_,e6,e7⟩:=RL (cs:=c::cs) bV hc hl bM aD (by rw[cM];exact hf.sub (Nat.le_refl _) GV) h6;have ja:Leaves j fr.todo:=e6;obtain⟨f1,rfl,ni,f2,f3,f4⟩:=Rb (P:=P) lG e2.rel (e1.le _ _ B3) ja.code BZ;refine⟨.bool j.isNone,ni,⟨σ,by rw[f1, ←cM];exact e1,by simp only[VR],f3,e4.trans f4⟩,?_⟩;have sQ:Frame.round bl fn ((ps.zip vs.toList).foldl (fun tmps (t,a)=>tmps.setIfInBounds t a) ta) aa bb .normal=b.atR a [.code aa,.beginRound,.code bb]:=rfl;rw[sQ];refine Steps.trans e7<|.one ?_;show step P (lone (b.atR a' fr.todo) (c::cs) w')=_;unfold Leaves at ja;split at ja
  ·rw[ja];exact stepR_round_end rfl rfl f2
  ·obtain⟨k,e⟩:=ja;rw[e];exact stepR_round_ret rfl rfl f2
  ·obtain⟨k,e,e'⟩:=ja;rw[e];exact stepR_round_exit rfl rfl e' f2
  ·obtain⟨k,e,e'⟩:=ja;rw[e];exact stepR_round_goto rfl rfl e' f2
  ·cases ja
theorem Ss(hP:bE P){sp:Sp}(hs:J9 P B sp){F:Nat->Option (List AV)}(hF:B.F=F):∀(n:Nat),fQ P B (bg P sp F n)
 |0=>⟨(fun f args x s s1 ρ w vs _ _ _ _ h _=>by cases h),(fun l b N args x s s1 ρ w vs _ _ _ _ h _ _=>by cases h),(fun n o k x s s1 ρ w _ r h=>Tf hF r h)⟩
 |n+1=>by
  have ih:=Ss hP hs hF n;refine⟨fun f args x s s1 ρ w vs fi r hg hf h hv=>?_,fun l b N args x s s1 ρ w vs fi r hg hf h hv hl=>ZB hP.mixed ih (Cw P hs F n) fi r hg hf h hv hl,(fun n o k x s s1 ρ w _ r h=>Tf hF r h)⟩;have h':ko P sp f (bg P sp F n) args s= .ok x s1:=h;rcases Sr (P:=P) sp f with⟨m,e1,e2⟩|e|⟨fn,body,e1,e2,e3,e⟩
  ·rw[e2] at h';exact hs.Ei f m e1 _ ih (Cw P hs F n) args x s s1 ρ w vs fi r hg hf h' hv
  ·rw[e] at h';cases h'
  ·rw[e] at h';exact aaq hP.mixed ih (Cw P hs F n) e1 e2 e3 (hP.code f fn body e1 e2) fi r hg hf h' hv
end
end Go.Rn
namespace Go.Rn
open Go.RowKit
variable {r:Nat->Nat} {k:Nat}
def bR(r:Nat->Nat)(x y:AV):Prop:=∀(ρ:aw) (v:Value),VR ρ x v->VR (fun k=>ρ<|r k) y v
def rC(r:Nat->Nat)(x y:ae):Prop:=∀(ρ:aw) (N:Nat) (o:Obj),OR ρ N x o->OR (fun k=>ρ<|r k) N y o
def au(P:Program)(B:aJ)(J:Nat)(Q:Tr AV->List Nat->Option Code->AS->Prop)(fr:AF)(s:AS):Prop:=∀(ρ:aw) (w:World) (b:Frame) (a:Act) (cs:List Frame),Fr ρ fr b a->At B ρ s fr.nt fr.tmps w a->(∀k,s.nx<=k->k<top->ρ k=none)->∃(aT:AF) (j:Option Code) (s1:AS) (σ:aw) (a':Act) (w':World),Q aT.tmps aT.defers j s1/\J<=s1.nx/\(∀k,k<J->k<top->σ k=ρ k)/\(∀k x,top<=k->ρ k=some x->σ k=some x)/\(∀k,s1.nx<=k->k<top->σ k=none)/\At B σ s1 fr.nt aT.tmps w' a'/\vy σ aT.defers a'.defers/\cH B w w'/\(aT.fn=fr.fn/\aT.nt=fr.nt/\aT.round=fr.round)/\jC aT.todo/\Leaves j aT.todo/\Steps P (lone (b.atR a fr.todo) cs w) (lone (b.atR a' aT.todo) cs w')
section
variable {P:Program} {B:aJ} {J:Nat} {Q:Tr AV->List Nat->Option Code->AS->Prop} {ρ:aw} {w:World} {s s1 s2:AS} {Ye:aI} {fr aT:AF} {j:Option Code}
theorem au.chunk(bV:P.follows .mixedOrders=true)(hc:fQ P B Ye)(hl:∀t a,Yd<|Ye t a)(h:dW P Ye k fr s= .ok (.go aT) s1)(h0:J<=s.nx)(H:au P B J Q aT s1):au P B J Q fr s:=by intro ρ w b a cs bM aD hf;have mT:=(Yd.dW P hl k fr).le aD.cJ h;have PY:=((Yd.dW P hl k fr).cJ aD.cJ h).nx;obtain⟨σ,a1,w1,e1,e2,e3,e4,⟨e5,e6,e7⟩,e8,_,e9⟩:=HZ (b:=b) (cs:=cs) bV hc hl k bM aD (fun k h1 _ h3=>hf k h1 h3) h;have B4:aT.fn=fr.fn:=e5;have ja:aT.nt=fr.nt:=e6;have nj:aT.round=fr.round:=e7;obtain⟨jY,j,s2,τ,a2,w2,q0,qn,q1,GW,q2,q3,q4,q5,⟨q6,q7,q8⟩,q9,P6,P7⟩:=H σ w1 b a1 cs ⟨bM.fn.trans B4.symm,bM.kind,by rw[nj];exact bM.round.mono e1.le,e3,e8⟩ (by rw[ja];exact e2) fun k hk ht=>(e1.out k ht aj).trans<|hf k aj ht;exact⟨jY,j,s2,τ,a2,w2,q0,qn,fun k hk gp=>(q1 k hk gp).trans<|e1.out k gp aj,fun k x hk hx=>GW k x hk<|e1.le _ _ hx,q2,by rw[←ja];exact q3,q4,e4.trans q5,⟨q6.trans B4,q7.trans ja,q8.trans nj⟩,q9,P6,Steps.trans e9 P7⟩
theorem au.leave(bV:P.follows .mixedOrders=true)(hc:fQ P B Ye)(hl:∀t a,Yd<|Ye t a)(h:dW P Ye k fr s= .ok (.leave aT j) s1)(h0:J<=s.nx)(hq:Q aT.tmps aT.defers j s1):au P B J Q fr s:=by intro ρ w b a cs bM aD hf;have mT:=(Yd.dW P hl k fr).le aD.cJ h;have PY:=((Yd.dW P hl k fr).cJ aD.cJ h).nx;obtain⟨σ,a1,w1,e1,e2,e3,e4,⟨e5,e6,e7⟩,e8,e10,e9⟩:=HZ (b:=b) (cs:=cs) bV hc hl k bM aD (fun k h1 _ h3=>hf k h1 h3) h;exact⟨aT,j,s1,σ,a1,w1,hq,Nat.le_trans h0 mT,fun k hk gp=>e1.out k gp aj,fun k x _ hx=>e1.le _ _ hx,fun k hk ht=>(e1.out k ht aj).trans<|hf k aj ht,e2,e3,e4,⟨e5,e6,e7⟩,e8,e10,e9⟩
abbrev nJ:=List<|Nat×Nat×List AV
def Marks(fz:nJ)(ρ fq:aw):Prop:=ρ.le fq/\(∀k,k<top->fq k=ρ k)/\∀p∈fz,∀b N,ρ p.1=some (b,N)->fq (hn p.2.1 b 0)≠none
open Classical in
noncomputable def marks(fz:nJ)(ρ:aw):aw:=fun k=>if ρ k=none/\∃p∈fz,∃b N,ρ p.1=some (b,N)/\k=hn p.2.1 b 0 then some (0,0) else ρ k
theorem Tg(fz:nJ)(ρ:aw):Marks fz ρ<|marks fz ρ:=by
 refine⟨fun k x e=>?_,fun k hk=>?_,fun p hp b N e=>?_⟩
 ·unfold marks;rw[if_neg (fun q=>by rw[e] at q;cases q.1)];exact e
 ·unfold marks;rw[if_neg (fun⟨_,p,_,b,N,_,q⟩=>by have:=fZ p.2.1 b 0;omega)]
 ·unfold marks;by_cases q:ρ (hn p.2.1 b 0)=none
  ·rw[if_pos ⟨q,p,hp,b,N,e,rfl⟩];exact fun h=>by cases h
  ·rw[if_neg fun z=>q z.1];exact q
theorem Su{fz:nJ}{ρ:aw}(h:marks fz ρ k≠none):ρ k≠none\/∃p∈fz,∃b N,ρ p.1=some (b,N)/\k=hn p.2.1 b 0:=by
 unfold marks at h;split at h
 ·rename_i q;exact .inr q.2
 ·exact .inl h
def qk(fz:nJ)(r:Nat->Nat)(x y:AV):Prop:=∀(ρ fq:aw) (v:Value),Marks fz ρ fq->VR ρ x v->VR (fun k=>fq<|r k) y v
def iE(fz:nJ)(r:Nat->Nat)(x y:ae):Prop:=∀(ρ fq:aw) (N:Nat) (o:Obj),Marks fz ρ fq->OR ρ N x o->OR (fun k=>fq<|r k) N y o
theorem bR.z{fz:nJ}{x y:AV}(h:bR r x y):qk fz r x y:=fun ρ fq v m hv=>h fq v<|VR.mono m.1 _ _ hv
theorem rC.z{fz:nJ}{x y:ae}(h:rC r x y):iE fz r x y:=fun ρ fq N o m hv=>h fq N o<|hv.mono m.1
def VD(F:Nat->Option (List AV))(h:Tr ae)(p:Nat×Nat×List AV):Prop:=p.1<top/\F p.2.1=some p.2.2/\∃N t z,h.get p.1=some (.cells N t z)/\∀i x,p.2.2[i]? =some x->i<N/\cellAt t z i=some x/\x.cj=true/\∀ρ v,VR ρ x v->VR (gj ρ) x v
theorem Rel.ahX{B:aJ}{ρ:aw}{h h2:Tr ae}{w:World}(fz:nJ)(R:Rel B ρ h w)(B5:∀k,top<=k->r k=k)(hz:∀p∈fz,VD B.F h p)(hh:∀n o2,n<top->h2.get n=some o2->r n<top/\o2.o5=true/\∃o1,h.get (r n)=some o1/\iv o1 o2/\iE fz r o1 o2)(tA:∀p∈fz,∀n o2,n<top->h2.get n=some o2->r n≠p.1)(DR:∀n m o p,n<top->m<top->h2.get n=some o->h2.get m=some p->r n=r m->n=m):Rel B (fun k=>marks fz ρ<|r k) h2 w:=by
 have hm:=Tg fz ρ;refine⟨fun n o hn hg=>?_,fun n m o p b N M hn eB hg lZ cS e1 e2=>?_,fun n m es ex left cur hn hg=>?_,R.size,fun i j m es ex left cur g9 ju iS iV hi _ hg _=>?_,fun n b sh e=>?_,?_⟩
 ·obtain⟨a1,_,o1,a3,a4,a5⟩:=hh n o hn hg;obtain⟨b,N,o',b1,b2,b3,b4⟩:=R.is (r n) o1 a1 a3;exact⟨b,N,o',(hm.2.1 _ a1).trans b1,b2,a5 ρ _ N o' hm b3,fun q=>b4<|a4.1 q⟩
 ·obtain⟨a1,_,o1,a3,a4,_⟩:=hh n o hn hg;obtain⟨c1,_,p1,c3,c4,_⟩:=hh m p eB lZ;have e1:marks fz ρ (r n)=some (b,N):=e1;have e2:marks fz ρ (r m)=some (b,M):=e2;rw[hm.2.1 _ a1] at e1;rw[hm.2.1 _ c1] at e2;exact DR n m o p hn eB hg lZ<|R.one (r n) (r m) o1 p1 b N M a1 c1 a3 c3 (cS.imp a4.1 c4.1) e1 e2
 ·have:=(hh n _ hn hg).2.1;simp[ae.o5] at this
 ·have:=(hh i _ hi hg).2.1;simp[ae.o5] at this
 ·have e:marks fz ρ (r<|hn n b sh)≠none:=e;rw[B5 _<|fZ _ _ _] at e;have hle:(gj ρ).le<|gj fun k=>marks fz ρ<|r k:=by
   intro k x e;unfold gj at e ⊢;split at e
   ·rename_i q;rw[if_pos q];show marks fz ρ (r k)=some x;rw[B5 k q];exact hm.1 _ _ e
   ·cases e
  rcases Su e with e|⟨p,hp,b',N,e1,e2⟩
  ·obtain⟨g0,l,c,e',fr,g1,g3,g4,g5⟩:=R.fz n b sh e;refine⟨g0,l,c,e',fr,g1,g3,fun m o N eB hg cw hr=>?_,fun i x hx=>by obtain⟨v,k1,k2,k3⟩:=g5 i x hx;exact⟨v,k1,VR.mono hle _ _ k2,k3⟩⟩;obtain⟨a1,_,o1,a3,a4,_⟩:=hh m o eB hg;exact g4 (r m) o1 N a1 a3 (a4.1 cw) (by have hr:marks fz ρ (r m)=_:=hr;rw[hm.2.1 _ a1] at hr;exact hr)
  ·obtain⟨rfl,rfl,rfl⟩:=IX e2;obtain⟨z1,z2,N0,t,z,z3,z4⟩:=hz p hp;obtain⟨b1,N1,o',k1,k2,k3,k4⟩:=R.is p.1 _ z1 z3;rw[e1] at k1;cases k1;obtain⟨c,et,rfl,_,_,row⟩:=k3;refine⟨.inr<|k4 rfl,p.2.2,c,et,_,z2,k2,fun m o M eB hg cw hr=>?_,fun i x hx=>?_⟩
   ·obtain⟨a1,_,o1,a3,a4,_⟩:=hh m o eB hg;have hr:marks fz ρ (r m)=_:=hr;rw[hm.2.1 _ a1] at hr;exact tA p hp m o eB hg<|R.one (r m) p.1 o1 _ _ _ _ a1 z1 a3 z3 (.inl<|a4.1 cw) hr e1
   ·obtain⟨i1,i2,i3,i4⟩:=z4 i x hx;obtain⟨x',v,j1,j2,j3,j4⟩:=row i i1;rw[i2] at j1;cases j1;exact⟨v,by rw[Nat.zero_add];exact j3,VR.mono hle _ _<|i4 _ _ j4,i3⟩
 ·obtain⟨k0,H,k1,k2⟩:=R.tk;have hle:∀m x,top<=m->ρ m=some x->marks fz ρ (r m)=some x:=fun m x jZ e=>by rw[B5 m jZ];exact hm.1 _ _ e
  have tok:∀n k v,n<top->h2.get n=some (.tok k v)->r n<top/\h.get (r n)=some (.tok k v):=fun n k v hn hg=>by obtain⟨a1,_,o1,a3,a4,_⟩:=hh n _ hn hg;rw[a4.2.1 rfl] at a3;exact⟨a1,a3⟩
  refine⟨⟨k0.1,fun n o hn hg hf=>?_⟩,fun n=>H<|r n,fun n k v hn hg=>?_,fun n m x k v k' v' hn eB g1 g2 cn=>?_⟩
  ·obtain⟨a1,_,o1,a3,a4,a5⟩:=hh n o hn hg;obtain⟨b,N,e1,e2⟩:=k0.2 (r n) o1 a1 a3<|a4.2.2 hf;exact⟨b,N,(hm.2.1 _ a1).trans e1,e2⟩
  ·obtain⟨a1,a2⟩:=tok n k v hn hg;obtain⟨b,N,c1,c2,c3,c4⟩:=k1 (r n) k v a1 a2;refine⟨b,N,(hm.2.1 _ a1).trans c1,B.mono c2 hle fun _ _=>rfl,c3,fun x hx=>?_⟩;obtain⟨d1,d2,d3,d4⟩:=c4 x hx;refine⟨d1,d2,fun m o M eB lZ cw hr=>?_,fun j sh=>?_⟩
   ·obtain⟨e1,_,o1,e3,e4,_⟩:=hh m o eB lZ;exact d3 (r m) o1 M e1 e3 (e4.1 cw) (by have hr:marks fz ρ (r m)=_:=hr;rw[hm.2.1 _ e1] at hr;exact hr)
   ·show marks fz ρ (r<|Rn.hn j x sh)=none;rw[B5 _<|fZ _ _ _];refine Classical.byContradiction fun q=>?_;rcases Su q with q|⟨p,hp,b',N',e1,e2⟩
    ·exact q<|d4 j sh
    ·obtain⟨_,rfl,_⟩:=IX e2;obtain⟨z1,_,N0,t,z,z3,_⟩:=hz p hp;exact d3 p.1 _ N' z1 z3 rfl e1
  ·obtain⟨a1,a2⟩:=tok n k v hn g1;obtain⟨a3,a4⟩:=tok m k' v' eB g2;exact k2 (r n) (r m) x k v k' v' a1 a3 a2 a4 fun e=>cn<|DR n m _ _ hn eB g1 g2 e
theorem au.weaken{t2:Tr AV}(fz:nJ)(r:Nat->Nat)(h0:∀k,k<J->r k=k)(h1:∀k,s2.nx<=k->k<top->s.nx<=r k/\r k<top)(B5:∀k,top<=k->r k=k)(hg:fN<=J)(hf2:bx s2)(hd:fr.defers=[])(hr:fr.round=none)(hz:∀p∈fz,VD B.F s.h p)(ht:∀i y,t2.get i=some y->∃x,fr.tmps.get i=some x/\qk fz r x y)(hh:∀n o2,n<top->s2.h.get n=some o2->r n<top/\o2.o5=true/\∃o1,s.h.get (r n)=some o1/\iv o1 o2/\iE fz r o1 o2)(tA:∀p∈fz,∀n o2,n<top->s2.h.get n=some o2->r n≠p.1)(DR:∀n m o p,n<top->m<top->s2.h.get n=some o->s2.h.get m=some p->r n=r m->n=m)(H:au P B J Q {fr with tmps:=t2} s2):au P B J Q fr s:=by
 intro ρ w b a cs bM aD hf;have hm:=Tg fz ρ;have nw:Fy (fun k=>marks fz ρ<|r k) fr.round b.roundOf:=by
  have:=bM.round;rw[hr] at this ⊢;cases hb:b.roundOf with
  |none=>trivial
  |some l=>rw[hb] at this;cases this
 have afZ:vy (fun k=>marks fz ρ<|r k) fr.defers a.defers:=by have:=bM.defs;rw[hd] at this ⊢;exact this
 have cR:∀k,k<J->k<top->marks fz ρ (r k)=ρ k:=fun k hk gp=>by rw[h0 k hk];exact hm.2.1 k gp
 have af0:gd fun k=>marks fz ρ<|r k:=fun g iB=>by obtain⟨N,e⟩:=aD.g g iB;exact⟨N,(cR g (Nat.lt_of_lt_of_le iB hg)<|Nat.lt_of_lt_of_le iB (by unfold fN top;decide)).trans e⟩
 have yb:TR (fun k=>marks fz ρ<|r k) fr.nt t2 a.tmps:=⟨aD.tr.1,fun i y hy=>by obtain⟨x,e1,e2⟩:=ht i y hy;exact e2 ρ _ _ hm<|aD.tr.2 i x e1⟩;obtain⟨jY,j,s3,τ,a2,w2,q0,qn,q1,GW,q2,q3,q4,q5,q6,q7,q8,q9⟩:=H (fun k=>marks fz ρ<|r k) w b a cs ⟨bM.fn,bM.kind,nw,afZ,bM.ok⟩ ⟨yb,aD.rel.ahX fz B5 hz hh tA DR,af0,aD.nt,hf2⟩ fun k hk ht=>(hm.2.1 _ (h1 k hk ht).2).trans<|hf _ (h1 k hk ht).1 (h1 k hk ht).2;exact⟨jY,j,s3,τ,a2,w2,q0,qn,fun k hk gp=>(q1 k hk gp).trans<|cR k hk gp,fun k x hk hx=>GW k x hk (by show marks fz ρ (r k)=_;rw[B5 k hk];exact hm.1 _ _ hx),q2,q3,q4,q5,q6,q7,q8,q9⟩
end
end Go.Rn
namespace Go.Rn
open Go.RowKit
variable {i:Nat} {d:Option Tmp} {v:AV} {o:Oper}
noncomputable section
def aS:List (Nat×AV)->Tr AV
 |[]=>.nil
 |p::l=>(aS l).put p.1<|some p.2
def gf:List (Nat×Option ae)->Tr ae
 |[]=>.nil
 |p::l=>(gf l).put p.1 p.2
def aq(l:List<|Nat×Option ae)(nx:Nat):AS:=⟨gf l,nx,0,[],[]⟩
def U9(P:Program)(f:FuncId):Code:=
 match P.funcs[f]? with
 |none=>.skip
 |some fn=>match fn.body with
  |none=>.skip
  |some c=>c
def a9(P:Program)(f:FuncId)(p:List Nat):Code:=sC p<|U9 P f
def opsOf:Code->Array Oper
 | .region _ ops _=>ops
 |_=> #[]
def o7(P:Program)(Ye:aI)(nt:Nat)(ops:Array Oper)(i n:Nat)(t:Tr AV):M<|Tr AV:=jl P Ye nt ops ((ops.toList.drop i).take n) t
def xI(ops:Array Oper)(i:Nat):Option<|Op×Option Tmp×Option (Nat×Bool):=
 match ops[i]? with
 |none=>none
 |some o=>some (o.op,o.dst,o.guard)
end
section
variable {P:Program} {B:aJ} {J:Nat} {Q:Tr AV->List Nat->Option Code->AS->Prop} {ρ:aw} {w:World} {s s1 s2:AS} {Ye:aI} {t t1 t2:Tr AV} {ops:Array Oper} {nt:Nat}
theorem Mf{l:List Oper}:jl P Ye nt ops (o::l) t=(gN P Ye nt ops o t).bind (jl P Ye nt ops l):=rfl
theorem Th:∀{l1 l2:List Oper} {t t1:Tr AV} {s s1:AS},jl P Ye nt ops l1 t s= .ok t1 s1->jl P Ye nt ops (l1++l2) t s=jl P Ye nt ops l2 t1 s1
 |[],l2,t,t1,s,s1,h=>by cases h;rfl
 |o::l1,l2,t,t1,s,s1,h=>by rw[Mf] at h;obtain⟨t',s',h1,h2⟩:=M.aP h;show jl P Ye nt ops (o::(l1++l2)) t s=_;rw[Mf,M.bK h1];exact Th h2
theorem RM{n m:Nat}(h1:o7 P Ye nt ops i n t s= .ok t1 s1)(h2:o7 P Ye nt ops (i+n) m t1 s1= .ok t2 s2):o7 P Ye nt ops i (n+m) t s= .ok t2 s2:=by unfold o7 at h1 h2 ⊢;rw[List.take_add,Th h1,List.drop_drop];exact h2
theorem RN(ho:ops[i]? =some o)(h:gN P Ye nt ops o t s= .ok t1 s1):o7 P Ye nt ops i 1 t s= .ok t1 s1:=by
 unfold o7;have:(ops.toList.drop i).take 1=[o]:=by
  have h1:ops.toList[i]? =some o:=by rw[Array.getElem?_toList];exact ho
  obtain⟨hi,e⟩:=List.getElem?_eq_some_iff.1 h1;rw[List.drop_eq_getElem_cons hi,e];rfl
 rw[this,Mf,M.bK h];rfl
theorem H4{op:Op}{g:Option<|Nat×Bool}(h:xI ops i=some (op,d,g)):∃o,ops[i]? =some o/\o.op=op/\o.dst=d/\o.guard=g:=by
 unfold xI at h;split at h
 ·cases h
 ·rename_i o e;injection h with h
  injection h with h1 h
  injection h with h2 h3
  exact⟨o,e,h1,h2,h3⟩
theorem cx{op:Op}(ho:xI ops i=some (op,d,none))(h:(dG P op).val Ye t s= .ok v s1)(hp:jk nt t d v=some t1):o7 P Ye nt ops i 1 t s= .ok t1 s1:=by obtain⟨o,e,rfl,rfl,e3⟩:=H4 ho;refine RN e ?_;unfold gN Bn;rw[e3];show rQ (dG P o.op) o.dst Ye nt t s=_;unfold rQ;rw[M.bK h,hp];rfl
theorem ahY{op:Op}{g:Nat×Bool}(ho:xI ops i=some (op,d,some g))(hk:sN ops t g.1=true)(hw:p0 ops g t=true)(h:(dG P op).val Ye t s= .ok v s1)(hp:jk nt t d v=some t1):o7 P Ye nt ops i 1 t s= .ok t1 s1:=by obtain⟨o,e,rfl,rfl,e3⟩:=H4 ho;refine RN e ?_;unfold gN Bn;rw[e3];show tu ops g (dG P o.op) o.dst Ye nt t s=_;unfold tu;rw[hk,hw,dB];show((dG P o.op).val Ye t).bind (fun v=>lift<|jk nt t o.dst v) s=_;rw[M.bK h,hp];rfl
theorem LK:∀{l:List<|List AV} {K i:Nat} {c:List AV},(∀c∈l,c.length=K)->l[i]? =some c->(l.flatten.drop<|i*K).take K=c
 |[],_,_,_,_,h=>by simp at h
 |x::l,K,0,c,hl,h=>by simp at h;subst h;have hx:=hl x List.mem_cons_self;rw[Nat.zero_mul,List.drop_zero,List.flatten_cons,List.take_append,hx,Nat.sub_self,List.take_zero,List.append_nil, ←hx,List.take_length]
 |x::l,K,i+1,c,hl,h=>by have hx:=hl x List.mem_cons_self;rw[List.flatten_cons,List.drop_append,hx,show(i+1)*K - K=i*K by rw[Nat.add_mul,Nat.one_mul];omega,List.drop_eq_nil_of_le (by rw[hx,Nat.add_mul,Nat.one_mul];omega),List.nil_append];exact LK (fun c hc=>hl c<|List.mem_cons_of_mem _ hc) (by simpa using h)
end
end Go.Rn
namespace Go.Rn
open Go.RowKit
section
variable {P:Program} {s s1:AS} {Ye:aI} {t:Tr AV}
theorem acQ{op:BinOp}{ty yt:TypeId}{x y:Operand}{k:IntKind}{a b:Int}{r:Bool}(hx:aG t x=some (.int k a))(hy:aG t y=some (.int k b))(hs:yD op=false)(hg:Io P op ty x y (.int k a) (.int k b)=true)(hr:Dk op k a b=some (.bool r)):
 (dG P<|.binOp op ty x y yt).val Ye t s= .ok (.bool r) s:=by
 show tI P op ty x y Ye t s=_;unfold tI;rw[hx,hy,cf,cf,hg,dB];have:AY P op ty (.int k a) (.int k b)=some (.bool r):=by unfold AY;simp only[hs,decide_true];exact hr
 rw[this];rfl
end
end Go.Rn
namespace Go.Rn
open Go.RowKit
section
variable {P:Program} {B:aJ} {J:Nat} {Q:Tr AV->List Nat->Option Code->AS->Prop} {s s1 s2:AS} {Ye:aI} {t t1 t2:Tr AV} {ops:Array Oper} {nt:Nat}
theorem acR{op:BinOp}{ty yt:TypeId}{x y:Operand}{k:IntKind}{a b:Int}{r:AV}(hx:aG t x=some (.int k a))(hy:aG t y=some (.int k b))(hs:yD op=false)(hg:Io P op ty x y (.int k a) (.int k b)=true)(hr:Dk op k a b=some r):
 (dG P<|.binOp op ty x y yt).val Ye t s= .ok r s:=by
 show tI P op ty x y Ye t s=_;unfold tI;rw[hx,hy,cf,cf,hg,dB];have:AY P op ty (.int k a) (.int k b)=some r:=by unfold AY;simp only[hs,decide_true];exact hr
 rw[this];rfl
noncomputable def tK(P:Program)(Ye:aI)(nt:Nat)(ops:Array Oper)(i n:Nat)(t:Tr AV):M<|Tr AV×List dt:=mY P Ye nt ops ((ops.toList.drop i).take n) i t
theorem Sv:∀{l1 l2:List Oper} {i:Nat} {t t1 t2:Tr AV} {m1 m2:List dt} {s s1 s2:AS},mY P Ye nt ops l1 i t s= .ok (t1,m1) s1->mY P Ye nt ops l2 (i+l1.length) t1 s1= .ok (t2,m2) s2->mY P Ye nt ops (l1++l2) i t s= .ok (t2,m1++m2) s2
 |[],l2,i,t,t1,t2,m1,m2,s,s1,s2,h,k=>by cases h;exact k
 |o::l1,l2,i,t,t1,t2,m1,m2,s,s1,s2,h,k=>by
  have h':((alone i<|gN P Ye nt ops o t).bind fun x=>(mY P Ye nt ops l1 (i+1) x.1).bind fun y=>M.pure (y.1,x.2::y.2)) s= .ok (t1,m1) s1:=h;obtain⟨x,sx,e1,e2⟩:=M.aP h';obtain⟨y,sy,e3,e4⟩:=M.aP e2;obtain⟨e5,rfl⟩:=bD e4;injection e5 with e6 e7
  subst e6;subst e7;have:=Sv (i:=i+1) e3 (by rw[show i+1+l1.length=i+(o::l1).length by simp;omega];exact k);show((alone i<|gN P Ye nt ops o t).bind fun x=>(mY P Ye nt ops (l1++l2) (i+1) x.1).bind fun y=>M.pure (y.1,x.2::y.2)) s=_;rw[M.bK e1,M.bK this];rfl
theorem Ti{i n m N:Nat}{m1 m2:List dt}(hN:ops.size=N)(hi:i+n<=N)(h1:tK P Ye nt ops i n t s= .ok (t1,m1) s1)(h2:tK P Ye nt ops (i+n) m t1 s1= .ok (t2,m2) s2):tK P Ye nt ops i (n+m) t s= .ok (t2,m1++m2) s2:=by unfold tK at h1 h2 ⊢;rw[List.take_add,List.drop_drop];refine Sv h1 ?_;rw[List.length_take,List.length_drop,Array.length_toList,hN,Nat.min_eq_left aj];exact h2
theorem Ff:∀{l:List<|Nat×AV} {i:Nat} {y:AV},(∀p∈l,p.1<top)->(aS l).get i=some y->(i,y)∈l
 |[],i,y,_,h=>by have:(Tr.nil:Tr AV).get i=some y:=h;rw[Tr.get_nil] at this;cases this
 |p::l,i,y,hl,h=>by
  have h':((aS l).put p.1<|some p.2).get i=some y:=h;rw[Tr.lM _ _ _ _<|hl p List.mem_cons_self] at h';by_cases e:i=p.1
  ·rw[if_pos e] at h';injection h' with h';subst h';subst e;exact List.mem_cons_self
  ·rw[if_neg e] at h';exact List.mem_cons_of_mem _<|Ff (fun q hq=>hl q<|List.mem_cons_of_mem _ hq) h'
theorem wx:∀{l:List<|Nat×Option ae} {i:Nat} {y:ae},(∀p∈l,p.1<top)->(gf l).get i=some y->(i,some y)∈l
 |[],i,y,_,h=>by have:(Tr.nil:Tr ae).get i=some y:=h;rw[Tr.get_nil] at this;cases this
 |p::l,i,y,hl,h=>by
  have h':((gf l).put p.1 p.2).get i=some y:=h;rw[Tr.lM _ _ _ _<|hl p List.mem_cons_self] at h';by_cases e:i=p.1
  ·rw[if_pos e] at h';have:p=(i,some y):=by rw[e, ←h']
   rw[←this];exact List.mem_cons_self
  ·rw[if_neg e] at h';exact List.mem_cons_of_mem _<|wx (fun q hq=>hl q<|List.mem_cons_of_mem _ hq) h'
theorem bR.same(x:AV):bR (fun k=>k) x x:=fun _ _ h=>h
theorem rC.same(x:ae):rC (fun k=>k) x x:=fun _ _ _ h=>h
def xg(t:Tr AV):List (Nat×AV)->Prop
 |[]=>True
 |p::l=>t.get p.1=some p.2/\xg t l
def xJ(h:Tr ae):List (Nat×Option ae)->Prop
 |[]=>True
 |p::l=>(h.get p.1=p.2/\∀o,p.2=some o->o.o5=true)/\xJ h l
theorem xg.mem{t:Tr AV}:∀{l:List<|Nat×AV},xg t l->∀p∈l,t.get p.1=some p.2
 |[],_,p,hp=>by cases hp
 |q::l,h,p,hp=>by
  rcases List.mem_cons.1 hp with rfl|hp
  ·exact h.1
  ·exact xg.mem h.2 p hp
theorem xJ.mem{h:Tr ae}:∀{l:List<|Nat×Option ae},xJ h l->∀p∈l,h.get p.1=p.2/\∀o,p.2=some o->o.o5=true
 |[],_,p,hp=>by cases hp
 |q::l,k,p,hp=>by
  rcases List.mem_cons.1 hp with rfl|hp
  ·exact k.1
  ·exact xJ.mem k.2 p hp
def pt{α:Type}(n:Nat):List (Nat×α)->Bool
 |[]=>true
 |p::l=>Nat.blt p.1 n&&pt n l
theorem wy{α:Type}{n:Nat}:∀{l:List<|Nat×α},pt n l=true->∀p∈l,p.1<n
 |[],_,p,hp=>by cases hp
 |q::l,h,p,hp=>by
  obtain⟨h1,h2⟩:=and_true.1 h;rcases List.mem_cons.1 hp with rfl|hp
  ·exact(blt_eq _ _).mp h1
  ·exact wy h2 p hp
theorem au.less{f:FuncId}{K:List Item}{l:List<|Nat×AV}{o:List<|Nat×Option ae}{nx:Nat}(hl:pt top l=true)(ho:pt top o=true)(hn:(Nat.ble s.nx nx&&Nat.ble nx top)=true)(hg:fN<=J)(ht:xg t l)(hh:xJ s.h o)(H:au P B J Q ⟨f,aS l,nt,K,[],none⟩<|aq o nx):au P B J Q ⟨f,t,nt,K,[],none⟩ s:=by
 obtain⟨tX,oK⟩:=and_true.1 hn;have tX:=aL.1 tX;have oK:=aL.1 oK;refine au.weaken (s2:=aq o nx) (t2:=aS l) [] (fun k=>k) (fun _ _=>rfl) (fun k hk ht=>⟨Nat.le_trans tX hk,ht⟩) (fun _ _=>rfl) hg ⟨Nat.zero_le _,oK⟩ rfl rfl (fun _ h=>by cases h) (fun i y hy=>?_) (fun n o2 hn hg=>?_) (fun _ h=>by cases h) (fun n m _ _ _ _ _ _ e=>e) H
 ·have:=Ff (fun p hp=>wy hl p hp) hy;exact⟨y,ht.mem _ this,(bR.same y).z⟩
 ·have:=wx (fun p hp=>wy ho p hp) hg;obtain⟨h1,h2⟩:=hh.mem _ this;exact⟨hn,h2 o2 rfl,o2,h1,iv.refl _,(rC.same o2).z⟩
end
end Go.Rn
namespace Go.Rn
open Go.RowKit
section
variable {P:Program} {s s1:AS} {Ye:aI} {t:Tr AV}
theorem LC{l z:List AV}(hl:l.length<=top):∀(k off:Nat),off+k<=l.length->lr (Tr.fill l 0 .nil) z k off=some ((l.drop off).take k)
 |0,off,_=>by simp[lr]
 |k+1,off,h=>by
  have bJ:off<l.length:=by omega
  have hc:cellAt (Tr.fill l 0 .nil) z off=some l[off]:=by unfold cellAt;rw[Tr.wq _ _ _ _ aj,if_pos aj,Nat.sub_zero,List.getElem?_eq_getElem bJ]
  simp only[lr,hc,LC hl k (off+1) aj];rw[List.drop_eq_getElem_cons bJ,List.take_succ_cons]
noncomputable def aN{α:Type}(enc:α->List AV)(l:List α):ae:=.cells (l.map enc).flatten.length (Tr.fill (l.map enc).flatten 0 .nil) []
theorem acS{o:ae}(ht:s.nx<top):fh o s= .ok s.nx {s with h:=s.h.put s.nx<|some o,nx:=s.nx+1}:=by
 obtain⟨hh,nx,mark,rd,wr⟩:=s;have e1:Nat.blt nx top=true:=by rw[blt_eq];exact ht
 show @Bool.rec (fun _=>R Nat) .bad (forced nx fun m=>.ok m ⟨hh.put m<|some o,m+1,mark,rd,wr⟩) (Nat.blt nx top)=_;rw[e1,yx]
theorem HM{l:List AV}(hl:l.length<=top)(h1:l.all AV.cj=true)(ht:s.nx<top):newRow l s= .ok s.nx {s with h:=s.h.put s.nx<|some<|.cells l.length (Tr.fill l 0 .nil) [],nx:=s.nx+1}:=by unfold newRow;rw[show(and (Nat.ble l.length top)<|l.all AV.cj)=true from and_true.2 ⟨aL.2 hl,h1⟩,dB];exact acS ht
end
end Go.Rn
namespace Go.Rn
open Go.RowKit
end Go.Rn
namespace Go.Rn
open Go.RowKit
noncomputable section
def cY(m:List<|Int×Int):List<|AV×AV:=m.map fun p=>(.int .i64 p.1,.int .i64 p.2)
def Gf(m:List<|Int×Int):ae:=.map (cY m) m.length
end
def getM:List (Int×Int)->Int->Int
 |[],_=>0
 |p::l,k=>if p.1=k then p.2 else getM l k
def gA:List (Int×Int)->Int->Int->List (Int×Int)
 |[],k,v=>[(k,v)]
 |p::l,k,v=>if p.1=k then(k,v)::l else p::gA l k v
section
variable {P:Program} {s s1:AS} {Ye:aI} {t:Tr AV}
theorem Tj(a b:Int):sameKey (.int .i64 a) (.int .i64 b)=some (a == b):=rfl
theorem Tk(k:Int):∀(m:List<|Int×Int) (i:Nat),(kR (.int .i64 k) (cY m) i=some none/\getM m k=0/\∀v,gA m k v=m++[(k,v)])\/
 ∃j y,kR (.int .i64 k) (cY m) i=some (some (i+j,.int .i64 y))/\getM m k=y/\m[j]? =some (k,y)/\∀v,putAt (cY m) j (.int .i64 k) (.int .i64 v)=cY (gA m k v)/\(gA m k v).length=m.length
 |[],i=>.inl ⟨rfl,rfl,fun _=>rfl⟩
 |p::l,i=>by
  have hf:kR (.int .i64 k) (cY<|p::l) i=(match some (k == p.1) with|none=>none|some true=>some (some (i,.int .i64 p.2))|some false=>kR (.int .i64 k) (cY l)<|i+1):=rfl;by_cases e:p.1=k
  ·refine .inr ⟨0,p.2,?_,?_,?_,fun v=>⟨?_,?_⟩⟩
   ·rw[hf,show(k == p.1)=true by simp[e]];rfl
   ·simp[getM,e]
   ·simp[←e]
   ·simp[gA,e,cY,putAt]
   ·simp[gA,e]
  ·have cn:(k == p.1)=false:=by simp;exact fun q=>e q.symm
   rcases Tk k l (i+1) with⟨h1,h2,h3⟩|⟨j,y,h1,h2,h3,h4⟩
   ·refine .inl ⟨?_,?_,fun v=>?_⟩
    ·rw[hf,cn];exact h1
    ·simp[getM,e,h2]
    ·simp[gA,e,h3 v]
   ·refine .inr ⟨j+1,y,?_,?_,?_,fun v=>⟨?_,?_⟩⟩
    ·rw[hf,cn];show kR _ _ _=_;rw[h1];congr 3;omega
    ·simp[getM,e,h2]
    ·simpa using h3
    ·have:=(h4 v).1;simp only[gA,e,if_false];show(_:AV×AV)::putAt (cY l) j _ _=_::cY (gA l k v);rw[this]
    ·simp[gA,e,(h4 v).2]
end
end Go.Rn
namespace Go.Rn
open Go.RowKit
section
variable {r:Nat->Nat}
theorem bR.int(k:IntKind)(n:Int):bR r (.int k n)<|.int k n:=fun _ _ h=>h
theorem bR.bool(b:Bool):bR r (.bool b)<|.bool b:=fun _ _ h=>h
theorem bR.aby:bR r (.slice none 0<|.known 0)<|.slice none 0<|.known 0:=fun _ _ h=>h
theorem bR.ptr{n m o:Nat}(e:r m=n):bR r (.ptr<|some (n,o))<|.ptr<|some (m,o):=by intro ρ v h;simp only[VR] at h ⊢;rw[e];exact h
theorem bR.map{n m:Nat}(e:r m=n):bR r (.map<|some n)<|.map<|some m:=by intro ρ v h;simp only[VR] at h ⊢;rw[e];exact h
theorem bR.slice{n m o len:Nat}{c:cL}(e:r m=n):bR r (.slice (some (n,o)) len c)<|.slice (some (m,o)) len c:=by intro ρ v h;cases c<;>simp only[VR] at h ⊢ <;>rw[e]<;>exact h
theorem bR.U{n o len:Nat}(e:r n=n)(hr:∀k,top<=k->r k=k):bR r (.U n o len)<|.U n o len:=by intro ρ v h;simp only[VR] at h ⊢;refine h.imp id fun⟨b,sh,c,h1,h2⟩=>⟨b,sh,c,h1.imp (fun q=>⟨q.1,(congrArg ρ e).trans q.2⟩) fun q=>⟨q.1,fun z=>q.2<|(congrArg ρ<|hr _<|fZ _ _ _).symm.trans z⟩,h2⟩
def AV.flat:AV->Bool
 | .bool _| .int _ _| .str _| .JZ _=>true
 | .ptr none| .map none| .nilFunc| .nilIface=>true
 | .slice none _ (.known _)=>true
 |_=>false
theorem bR.flat{x:AV}(h:x.flat=true):bR r x x:=by
 intro ρ v k;cases x<;>first|exact k|skip
 case slice a len cap=>cases a with
  |some _=>cases h
  |none=>cases cap with
   |known c=>simp only[VR] at k ⊢;exact k
   |ak _ _=>cases h
   |lost=>cases h
 all_goals first|(cases h;done)|skip
 all_goals
  rename_i a;cases a with
  |none=>exact k
  |some _=>cases h
def JG(r:Nat->Nat):List AV->List AV->Prop
 |[],[]=>True
 |x::l,y::m=>bR r x y/\JG r l m
 |_,_=>False
def af1(r:Nat->Nat)(h:Tr ae):List (Nat×ae)->Prop
 |[]=>True
 |p::l=>(p.2.plain=true/\∃x,h.get (r p.1)=some x/\(x.di=p.2.di/\x.mK=p.2.mK)/\rC r x p.2)/\af1 r h l
def bu:List (Nat×ae)->List (Nat×Option ae)
 |[]=>[]
 |p::l=>(p.1,some p.2)::bu l
theorem Mg:∀{l:List<|Nat×ae} {i:Nat} {y:ae},(i,some y)∈bu l->(i,y)∈l
 |p::l,i,y,h=>by
  rcases List.mem_cons.1 h with h|h
  ·injection h with h1 h2
   injection h2 with h2
   have:p=(i,y):=by rw[h1,h2]
   rw[←this];exact List.mem_cons_self
  ·exact List.mem_cons_of_mem _<|Mg h
variable {P:Program} {B:aJ} {Q:Tr AV->List Nat->Option Code->AS->Prop} {s:AS} {t:Tr AV} {nt:Nat}
end
end Go.Rn
namespace Go.Rn
end Go.Rn
namespace Go.Rn
open Go.RowKit
noncomputable section
end
section
variable {P:Program} {s s1:AS} {Ye:aI} {t:Tr AV}
end
end Go.Rn
namespace Go.Rn
open Go.RowKit
noncomputable section
def Fin(P:Program)(rs:List ResultVar)(R:AV->AS->Prop):Tr AV->List Nat->Option Code->AS->Prop:=fun t d j s=>∃x s3,finish P rs ⟨0,t,0,[],d,none⟩ j s= .ok x s3/\R x s3
end
section
variable {P:Program} {B:aJ} {ρ:aw} {w:World} {s s1:AS} {Ye:aI}
theorem ET(rs:List ResultVar)(fr:AF)(j:Option Code):finish P rs fr j=finish P rs ⟨0,fr.tmps,0,[],fr.defers,none⟩ j:=rfl
theorem au.calls(hP:bE P){g:FuncId}{fn:Func}{body:Code}{args:List AV}{vs:Array Value}{R:AV->AS->Prop}(cm:P.funcs[g]? =some fn)(cv:fn.body=some body)(oH:max fn.ntmps args.length<=top)(H:au P B s.nx (Fin P fn.results.toList R) ⟨g,eh args,max fn.ntmps args.length,[.code body],[],none⟩ s)(fi:bx s)(r:Rel B ρ s.h w)(hg:gd ρ)(hf:∀k,s.nx<=k->k<top->ρ k=none)(hv:ay ρ args vs.toList):
 Calls P g vs w fun e w'=>∃v x s3,e= .returned v/\R x s3/\s.nx<=s3.nx/\bx s3/\kh B ρ s s3 w x v w':=by
 intro cs;let b:Frame:={(default:Frame) with fn:=g,kind:=.normal,roundOf:=none};let a:Act:={tmps:=vs++Array.replicate (fn.ntmps - vs.size) undef,defers:=[]};have sQ:Frame.enter P g vs .normal=b.atR a [.code body]:=by simp[Frame.enter,Frame.atR,cm,cv,b,a]
 have bM:Fr ρ ⟨g,eh args,max fn.ntmps args.length,[.code body],[],none⟩ b a:=⟨rfl,rfl,trivial,rfl,.cons (hP.code g fn body cm cv) .nil⟩;have aD:At B ρ s (max fn.ntmps args.length) (eh args) w a:=⟨Hk hv _ oH,r,hg,oH,fi⟩;obtain⟨fr,j,s2,σ,a',w',⟨x,s3,pq,hR⟩,en,e0,GX,e1,e2,e3,e4,e5,e6,e7,e8⟩:=H ρ w b a cs bM aD hf;have OK:finish P fn.results.toList fr j s2= .ok x s3:=by rw[ET];exact pq
 have zU:bx s2:=e2.cJ;have ahZ:Ext s.nx s2.nx ρ σ:=by
  refine⟨fun k y hk=>?_,fun k gp hk=>?_⟩
  ·by_cases qt:k<top
   ·by_cases q:s.nx<=k
    ·rw[hf k q qt] at hk;cases hk
    ·rw[e0 k aj qt];exact hk
   ·exact GX k y aj hk
  ·by_cases q:k<s.nx
   ·exact e0 k q gp
   ·rw[e1 k aj gp,hf k aj gp]
 obtain⟨hj,u2,s4,rs,h7,h9,hx⟩:=Hy OK;have mU:bx s4:=(Yd.oh _).cJ zU h7;have nj:Leaves j fr.todo:=e7;obtain⟨d1,d2,w2,d3,d4,d5⟩:=EG (P:=P) (fr:=b) (cs:=cs) zU e2.rel e3 h7;obtain⟨f1,f2,us,f3,f4⟩:=EF (P:=P) (w:=w2) e2.tr mU d3 h9;have lG:bx s3:=(Yd.pV P fr.tmps _).cJ mU h9;have BA:Steps P (lone (b.atR a' fr.todo) cs w')<|lone {b.atR a' fr.todo with mode:=.returning} cs w':=by
  rcases hj with rfl|rfl
  ·have e:fr.todo=[]:=nj;rw[e];exact .one<|stepR_end rfl
  ·obtain⟨k,e⟩:=nj;rw[e];exact .one<|stepR_ret rfl
 have tA:=d5 {b.atR a' fr.todo with mode:=.returning} cs iJ rfl;have kD:(results fn a'.tmps).run P w2= .ok (mg us) w2:=by
  unfold results;rw[Array.mapM_eq_mapM_toList];simp only[Sem.run_bind,map_eq_pure_bind,Sem.run_pure];refine Eq.trans (congrArg (fun r:Result (List Value)=>(r.andThen fun a w'=>Result.ok a.toArray w').andThen fun a w'=>Result.ok (if h:a.size=1 then a[0] else Value.tuple a) w') f3) ?_;have:∀l:List Value,(Result.ok (if h:l.toArray.size=1 then l.toArray[0] else Value.tuple l.toArray) w2:Result Value)= .ok (mg l) w2:=by
   intro l
   match l with
   |[]=>rfl
   |[v]=>rfl
   |v::v2::l=>simp[mg]
  exact this us
 have Xe:s3.nx=s2.nx:=by rw[f2,d1]
 have hle:s.nx<=s3.nx:=by rw[Xe];exact en
 refine⟨.returned<|mg us,w2,{b.atR a' fr.todo with mode:=.returning,defers:=[]},⟨_,x,s3,rfl,hR,hle,lG,?_⟩,?_,rfl,?_⟩
 ·exact⟨σ,by rw[Xe];exact ahZ,by rw[hx];exact HK f4,by rw[f1];exact d3,e4.trans d4⟩
 ·rw[sQ];exact Steps.trans e8<|Steps.trans BA tA
 ·exact⟨rfl,rfl,rfl,fn,cm,kD⟩
end
end Go.Rn
namespace Go.Rn
variable {P:Program} {Ye:aI} {nt:Nat} {ops:Array Oper} {t t1:Tr AV}
theorem uw{P:Program}{w:World}{f:FuncId}{fn:Func}{body:Code}{vs:Array Value}(cm:P.funcs[f]? =some fn)(cv:fn.body=some body)(dJ:(fn.name == "runtime.NumGoroutine")=false):(callFunc f vs).run P w= .ok (.enter f vs) w:=by
 have FX:(program).run P w= .ok P w:=rfl;have hn:fn.name≠ "runtime.NumGoroutine" :=by simpa using dJ
 simp only[callFunc,Sem.run_bind,FX,Result.andThen_ok,cm,dJ,cv];simp
theorem sq{K:Nat}:∀{l:List<|List AV},(∀c∈l,c.length=K)->l.flatten.length=l.length*K
 |[],_=>by simp
 |c::l,h=>by rw[List.flatten_cons,List.length_append,h c List.mem_cons_self,sq fun c' h'=>h c'<|List.mem_cons_of_mem _ h',List.length_cons,Nat.add_mul,Nat.one_mul];omega
theorem aex{s:AS}{ty yt:TypeId}{x y:Operand}{k:IntKind}{a b c:Int}(hx:aG t x=some (.int k a))(hy:aG t y=some (.int k b))(h0:b≠0)(h:a.tmod b=c):(dG P<|.binOp .rem ty x y yt).val Ye t s= .ok (.int k c) s:=acR hx hy rfl rfl (by subst h;simp only[Dk,decide_eq_false h0])
end Go.Rn
namespace Go.Rn
open Go.RowKit
section
variable {P:Program} {Ye:aI} {nt:Nat} {ops:Array Oper} {t t1:Tr AV}
end
noncomputable section
end
end Go.Rn
namespace Go.Rn
open Go.RowKit
variable {t1:Tr AV} {g:Option<|Nat×Bool} {d:Option Tmp} {v:AV} {id:Nat} {c:Code}
noncomputable section
instance:Inhabited<|Tr AV:=⟨.nil⟩
def Chunk(P:Program)(Ye:aI)(G:AF->AS->Prop):Prop:=∀(k:Nat) (fr aT:AF) (s s1:AS),dW P Ye k fr s= .ok (.go aT) s1->G aT s1->G fr s
def Ev(P:Program)(Ye:aI)(R:AF->Option Code->AS->Prop)(fr:AF)(s:AS):Prop:=∃k aT j s1,dW P Ye k fr s= .ok (.leave aT j) s1/\R aT j s1
def zw(P:Program)(B:aJ)(J:Nat)(Q:Tr AV->List Nat->Option Code->AS->Prop)(fr:AF)(s:AS):Prop:=J<=s.nx->au P B J Q fr s
def xK(P:Program)(Ye:aI)(G:AF->AS->Prop)(f nt:Nat)(K:List Item)(ops:Array Oper)(i:Nat)(t:Tr AV)(s:AS):Prop:=∃t1 s1,o7 P Ye nt ops i (ops.size - i) t s= .ok t1 s1/\G ⟨f,t1,nt,K,[],none⟩ s1
def qA(P:Program)(Ye:aI)(G:AF->AS->Prop)(f nt:Nat)(K:List Item)(ops:Array Oper)(acc:List dt)(i:Nat)(t:Tr AV)(s:AS):Prop:=∃t1 ms s1,tK P Ye nt ops i (ops.size - i) t s= .ok (t1,ms) s1/\qj (Region.before ops) (acc++ms) (acc++ms)=true/\G ⟨f,t1,nt,K,[],none⟩ s1
def Gg:Tr ae->List (Nat×Option ae)->Tr ae
 |t,[]=>t
 |t,p::l=>Gg (t.put p.1 p.2) l
def I3(s:AS):AS:=⟨s.h,s.nx,s.nx,[],[]⟩
def Dt(s s1:AS):AS:=⟨s1.h,s1.nx,s.mark,below s.mark s1.rd++s.rd,below s.mark s1.wr++s.wr⟩
def Ka(i:Nat)(s s1:AS):dt:=⟨i,below s.nx s1.rd,below s.nx s1.wr,s.nx,s1.nx⟩
end
section
variable {P:Program} {B:aJ} {J:Nat} {Q:Tr AV->List Nat->Option Code->AS->Prop} {s s1:AS} {Ye:aI} {t:Tr AV} {ops:Array Oper} {f nt i:Nat} {K:List Item} {G:AF->AS->Prop} {acc:List dt}
theorem Chunk.Ei(bV:P.follows .mixedOrders=true)(hc:fQ P B Ye)(hl:∀t a,Yd<|Ye t a):Chunk P Ye<|zw P B J Q:=by intro k fr aT s s1 h H h0 ρ w b a cs bM aD hf;have le:=(Yd.dW P hl k fr).le aD.cJ h;exact au.chunk bV hc hl h h0 (H<|Nat.le_trans h0 le) ρ w b a cs bM aD hf
theorem Sw:∀{k m:Nat} {fr aT:AF} {s s1:AS},dW P Ye k fr s= .ok (.go aT) s1->dW P Ye (k+m) fr s=dW P Ye m aT s1
 |0,m,fr,aT,s,s1,h=>by cases h;rw[Nat.zero_add]
 |k+1,m,fr,aT,s,s1,h=>by
  obtain⟨y,s2,h1,h2⟩:=M.aP (show((jg P Ye fr).bind fun x=> @br.rec (fun _=>M br) (dW P Ye k) (fun fr j=>M.pure<|.leave fr j) x) s= .ok _ s1 from h);cases y with
  |go nW=>rw[show k+1+m=(k+m)+1 by omega,AL h1];exact Sw h2
  |leave nW j'=>cases h2
theorem Chunk.ev{R:AF->Option Code->AS->Prop}:Chunk P Ye<|Ev P Ye R:=by intro k fr aT s s1 h ⟨m,jY,j,s2,h1,h2⟩;exact⟨k+m,jY,j,s2,by rw[Sw h];exact h1,h2⟩
theorem Chunk.zR(hG:Chunk P Ye G)(Ds:c= .region id (opsOf c) false)(H:xK P Ye G f nt K (opsOf c) 0 t s):G ⟨f,t,nt,.code c::K,[],none⟩ s:=by
 obtain⟨t1,s1,h,H⟩:=H;refine hG 1 _ _ _ s1 (AL ?_) H;have ht:((opsOf c).toList.drop 0).take ((opsOf c).size - 0)=(opsOf c).toList:=by rw[List.drop_zero,Nat.sub_zero, ←Array.length_toList,List.take_length]
 unfold o7 at h;rw[ht] at h;rw[Ds];show((jl P Ye nt (opsOf c) (opsOf c).toList t).bind fun t=>M.pure<|br.go ⟨f,t,nt,K,[],none⟩) s=_;rw[M.bK h];rfl
theorem Chunk.ah0(hG:Chunk P Ye G)(Ds:c= .region id (opsOf c) true)(H:qA P Ye G f nt K (opsOf c) [] 0 t s):G ⟨f,t,nt,.code c::K,[],none⟩ s:=by
 obtain⟨t1,ms,s1,h,hm,H⟩:=H;rw[List.nil_append] at hm;refine hG 1 _ _ _ s1 (AL ?_) H;have ht:((opsOf c).toList.drop 0).take ((opsOf c).size - 0)=(opsOf c).toList:=by rw[List.drop_zero,Nat.sub_zero, ←Array.length_toList,List.take_length]
 unfold tK at h;rw[ht] at h;rw[Ds];show((pW P Ye nt (opsOf c) t).bind fun t=>M.pure<|br.go ⟨f,t,nt,K,[],none⟩) s=_;have:pW P Ye nt (opsOf c) t s= .ok t1 s1:=by unfold pW;rw[M.bK h];show aF (qj (Region.before<|opsOf c) ms ms) (M.pure t1) s1=_;rw[hm,dB];rfl
 rw[M.bK this];rfl
theorem xK.done(h:Nat.ble ops.size i=true)(H:G ⟨f,t,nt,K,[],none⟩ s):xK P Ye G f nt K ops i t s:=by refine⟨t,s,?_,H⟩;rw[show ops.size - i=0 by have:=aL.1 h;omega];unfold o7;rw[List.take_zero];rfl
theorem qA.done(h:(Nat.ble ops.size i&&qj (Region.before ops) acc acc)=true)(H:G ⟨f,t,nt,K,[],none⟩ s):qA P Ye G f nt K ops acc i t s:=by obtain⟨h1,h2⟩:=and_true.1 h;refine⟨t,[],s,?_,by rw[List.append_nil];exact h2,H⟩;rw[show ops.size - i=0 by have:=aL.1 h1;omega];unfold tK;rw[List.take_zero];rfl
theorem xK.step(hn:Nat.blt i ops.size=true)(h:o7 P Ye nt ops i 1 t s= .ok t1 s1)(H:xK P Ye G f nt K ops (i+1) t1 s1):xK P Ye G f nt K ops i t s:=by obtain⟨t2,s2,h1,h2⟩:=H;have bJ:=(blt_eq _ _).mp hn;refine⟨t2,s2,?_,h2⟩;rw[show ops.size - i=1+(ops.size - (i+1)) by omega];exact RM h h1
theorem qA.step{ms:List dt}(hn:Nat.blt i ops.size=true)(h:tK P Ye nt ops i 1 t s= .ok (t1,ms) s1)(H:qA P Ye G f nt K ops (acc++ms) (i+1) t1 s1):qA P Ye G f nt K ops acc i t s:=by obtain⟨t2,ms2,s2,h1,h2,h3⟩:=H;have bJ:=(blt_eq _ _).mp hn;refine⟨t2,_,s2,?_,by rw[←List.append_assoc];exact h2,h3⟩;rw[show ops.size - i=1+(ops.size - (i+1)) by omega];exact Ti rfl aj h h1
theorem Ud{op:Op}(h:xI ops i=some (op,d,g)):Nat.blt i ops.size=true:=by obtain⟨o,e,_⟩:=H4 h;rw[blt_eq];exact(Array.getElem?_eq_some_iff.1 e).1
noncomputable def JH(ops:Array Oper)(g:Option<|Nat×Bool)(t:Tr AV):Bool:=
 match g with
 |none=>true
 |some g=>sN ops t g.1&&p0 ops g t
theorem aey{op:Op}(ho:xI ops i=some (op,d,g))(hw:JH ops g t=true)(h:(dG P op).val Ye t s= .ok v s1)(hp:jk nt t d v=some t1):o7 P Ye nt ops i 1 t s= .ok t1 s1:=by
 cases g with
 |none=>exact cx ho h hp
 |some g=>obtain⟨h1,h2⟩:=and_true.1 (show(sN ops t g.1&&p0 ops g t)=true from hw);exact ahY ho h1 h2 h hp
theorem acT{op:Op}(ho:xI ops i=some (op,d,g))(hw:JH ops g t=true)(h:(dG P op).val Ye t (I3 s)= .ok v s1)(hp:jk nt t d v=some t1):tK P Ye nt ops i 1 t s= .ok (t1,[Ka i s s1]) (Dt s s1):=by
 obtain⟨o,e,rfl,rfl,e3⟩:=H4 ho;unfold tK;have hl:(ops.toList.drop i).take 1=[o]:=by
  have h1:ops.toList[i]? =some o:=by rw[Array.getElem?_toList];exact e
  obtain⟨hi,e⟩:=List.getElem?_eq_some_iff.1 h1;rw[List.drop_eq_getElem_cons hi,e];rfl
 rw[hl];have ha:gN P Ye nt ops o t (I3 s)= .ok t1 s1:=by
  unfold gN Bn;rw[e3];cases g with
  |none=>show rQ (dG P o.op) o.dst Ye nt t _=_;unfold rQ;rw[M.bK h,hp];rfl
  |some g=>obtain⟨h1,h2⟩:=and_true.1 (show(sN ops t g.1&&p0 ops g t)=true from hw);show tu ops g (dG P o.op) o.dst Ye nt t _=_;unfold tu;rw[h1,h2,dB];show((dG P o.op).val Ye t).bind (fun v=>lift<|jk nt t o.dst v) _=_;rw[M.bK h,hp];rfl
 have hal:alone i (gN P Ye nt ops o t) s= .ok (t1,Ka i s s1) (Dt s s1):=by obtain⟨hh,nx,mark,rd,wr⟩:=s;obtain⟨xX,pG,OD,gk,nT⟩:=s1;unfold alone;simp only[yx];show(@R.rec _ (fun _=>R<|Tr AV×dt) .bad (fun a s1=>_)<|gN P Ye nt ops o t<|I3 ⟨hh,nx,mark,rd,wr⟩)=_;rw[ha];rfl
 show((alone i<|gN P Ye nt ops o t).bind fun x=>(mY P Ye nt ops [] (i+1) x.1).bind fun y=>M.pure (y.1,x.2::y.2)) s=_;rw[M.bK hal];rfl
def Pd:BinOp->Int->Int->Option Bool
 | .lss,a,b=>some<|decide<|a<b
 | .leq,a,b=>some<|decide<|a<=b
 | .gtr,a,b=>some<|decide<|a>b
 | .geq,a,b=>some<|decide<|a>=b
 | .eql,a,b=>some<|a == b
 | .neq,a,b=>some<|!(a == b)
 |_,_,_=>none
theorem aez{op:BinOp}{ty yt:TypeId}{x y:Operand}{k:IntKind}{a b:Int}{r:Bool}(hx:aG t x=some (.int k a))(hy:aG t y=some (.int k b))(h:Pd op a b=some r):(dG P<|.binOp op ty x y yt).val Ye t s= .ok (.bool r) s:=by cases op<;>simp only[Pd,Option.some.injEq,reduceCtorEq] at h<;>exact acQ hx hy rfl rfl (by subst h;rfl)
theorem zw.start(h:Nat.ble J s.nx=true){fr:AF}(H:zw P B J Q fr s):au P B J Q fr s:=H<|aL.1 h
theorem CG{g:FuncId}{fn:Func}(h:P.funcs[g]? =some fn)(hb:fn.body.isSome=true):fn.body=some (a9 P g []):=by
 unfold a9 U9;rw[h];simp only[sC];cases e:fn.body with
 |none=>rw[e] at hb;cases hb
 |some c=>rfl
end
end Go.Rn
namespace Go.Rn
open Go.RowKit
variable {α:Type} {l:List α} {i K n j:Nat} {enc:α->List AV} {c x c':α}
theorem Sx{α:Type}(u v:Option α):∀(p q:List Bool) (t:Tr α),p≠q->Tr.mu u p (Tr.mu v q t)=Tr.mu v q (Tr.mu u p t)
 |[],[],_,h=>absurd rfl h
 |[],b::q,t,_=>by
  cases t with
  |nil=>cases b<;>rfl
  |node l x r=>cases b<;>rfl
 |a::p,[],t,_=>by
  cases t with
  |nil=>cases a<;>rfl
  |node l x r=>cases a<;>rfl
 |a::p,b::q,t,h=>by
  have ih:∀t:Tr α,a=b->Tr.mu u p (Tr.mu v q t)=Tr.mu v q (Tr.mu u p t):=fun t e=>Sx u v p q t (fun e2=>h<|by rw[e,e2]);cases t with
  |nil=>cases a<;>cases b<;>simp[Tr.MH,Tr.EN,ih]
  |node l x r=>cases a<;>cases b<;>simp[Tr.EN,ih]
theorem Mh(u v:Option α):∀(p:List Bool) (t:Tr α),Tr.mu u p (Tr.mu v p t)=Tr.mu u p t
 |[],t=>by cases t<;>rfl
 |a::p,t=>by
  cases t with
  |nil=>cases a<;>simp[Tr.MH,Tr.EN,Mh u v p]
  |node l x r=>cases a<;>simp[Tr.EN,Mh u v p]
theorem put_comm(t:Tr α)(n m:Nat)(u v:Option α)(hn:n<top)(h:n≠m):(t.put m v).put n u=(t.put n u).put m v:=Sx u v _ _ t fun e=>T0 hn (fun e2=>h e2.symm) e.symm
theorem abz(t:Tr α)(n:Nat)(u v:Option α):(t.put n v).put n u=t.put n u:=Mh u v _ t
theorem Tl:∀(l:List α) (i:Nat) (t:Tr α) (n:Nat),n<i->n<top->(Tr.fill l i t).put n (some x)=Tr.fill l i (t.put n<|some x)
 |[],_,_,_,_,_=>rfl
 |y::l,i,t,n,h,hn=>by show(Tr.fill l (i+1)<|t.put i<|some y).put n (some x)=Tr.fill l (i+1) ((t.put n<|some x).put i<|some y);rw[Tl l (i+1) _ n aj hn,put_comm t n i _ _ hn aj]
theorem Sy:∀(l:List α) (i k:Nat) (t:Tr α),k<l.length->i+k<top->(Tr.fill l i t).put (i+k) (some x)=Tr.fill (l.set k x) i t
 |[],_,_,_,h,_=>by simp at h
 |y::l,i,0,t,_,h=>by show(Tr.fill l (i+1)<|t.put i<|some y).put i (some x)=Tr.fill l (i+1) (t.put i<|some x);rw[Tl l (i+1) _ i aj h,abz]
 |y::l,i,k+1,t,h,ht=>by show(Tr.fill l (i+1)<|t.put i<|some y).put (i+(k+1)) (some x)=Tr.fill (l.set k x) (i+1) (t.put i<|some y);rw[show i+(k+1)=i+1+k by omega];exact Sy l (i+1) k _ (by simpa using h) aj
def hZ:List α->Nat->List α->List α
 |l,_,[]=>l
 |l,k,x::r=>hZ (l.set k x) (k+1) r
theorem Sz{α:Type}:∀(r l:List α) (k:Nat),k+r.length<=l.length->l.length<=top->Tr.fill r k (Tr.fill l 0 .nil)=Tr.fill (hZ l k r) 0 .nil
 |[],_,_,_,_=>rfl
 |x::r,l,k,h,ht=>by simp only[List.length_cons] at h;show Tr.fill r (k+1) ((Tr.fill l 0 .nil).put k<|some x)=Tr.fill (hZ (l.set k x) (k+1) r) 0 .nil;have:=Sy (x:=x) l 0 k .nil aj aj;rw[Nat.zero_add] at this;rw[this];exact Sz r (l.set k x) (k+1) (by rw[List.length_set];omega) (by rw[List.length_set];exact ht)
theorem Ns{α:Type}:∀(r l:List α) (k i:Nat),k+r.length<=l.length->(hZ l k r)[i]? =if k<=i/\i<k+r.length then r[i - k]? else l[i]?
 |[],l,k,i,_=>by show l[i]? =_;simp;intro h1 h2;omega
 |x::r,l,k,i,h=>by
  simp only[List.length_cons] at h ⊢;show(hZ (l.set k x) (k+1) r)[i]? =_;rw[Ns r (l.set k x) (k+1) i (by rw[List.length_set];omega)];by_cases e:i=k
  ·subst e;rw[if_neg aj,if_pos aj,Nat.sub_self,List.getElem?_set];simp;omega
  ·by_cases q:k+1<=i/\i<k+1+r.length
   ·rw[if_pos q,if_pos aj];obtain⟨j,rfl⟩:∃j,i=k+1+j:=⟨i - (k+1),by omega⟩;rw[show k+1+j - (k+1)=j by omega,show k+1+j - k=j+1 by omega];simp
   ·rw[if_neg q,if_neg aj,List.getElem?_set_ne aj]
theorem Iv{K:Nat}{β:Type}:∀{L:List<|List β} {i j:Nat},(∀c∈L,c.length=K)->i<L.length->j<K->∀{c:List β},L[i]? =some c->L.flatten[i*K+j]? =c[j]?
 |[],_,_,_,h,_,_,_=>by simp at h
 |x::L,0,j,hL,_,hj,c,hc=>by simp at hc;subst hc;have hx:=hL x List.mem_cons_self;rw[List.flatten_cons,Nat.zero_mul,Nat.zero_add,List.getElem?_append_left aj]
 |x::L,i+1,j,hL,hi,hj,c,hc=>by have hx:=hL x List.mem_cons_self;rw[List.flatten_cons,List.getElem?_append_right (by rw[hx,Nat.add_mul];omega),hx,show(i+1)*K+j - K=i*K+j by rw[Nat.add_mul];omega];exact Iv (fun c hc=>hL c<|List.mem_cons_of_mem _ hc) (by simpa using hi) hj (by simpa using hc)
theorem abA(he:∀x,(enc x).length=K){r:List AV}(hc:l[i]? =some c)(hr:enc c'=hZ (enc c) j r)(hj:j+r.length<=K):hZ (l.map enc).flatten (i*K+j) r=((l.set i c').map enc).flatten:=by
 have hi:=(List.getElem?_eq_some_iff.1 hc).1;have dK:∀(l:List α),∀c∈l.map enc,c.length=K:=fun l c hc=>by obtain⟨x,_,rfl⟩:=List.mem_map.1 hc;exact he x
 have yc:∀l:List α,(l.map enc).flatten.length=l.length*K:=fun l=>by rw[sq<|dK l,List.length_map]
 have hmul:i*K+K<=l.length*K:=by have:=Nat.mul_le_mul_right K hi;rw[Nat.succ_mul] at this;exact this
 apply List.ext_getElem?;intro m;rw[Ns _ _ _ _ (by rw[yc];omega)];by_cases hm:m<l.length*K
 ·have hK:0<K:=by
   cases K with
   |zero=>simp at hm
   |succ k=>omega
  have hq:m / K<l.length:=by rw[Nat.div_lt_iff_lt_mul hK];exact hm
  have Ej:m=m / K*K+m % K:=by rw[Nat.mul_comm];exact(Nat.div_add_mod m K).symm
  have Gh:m % K<K:=Nat.mod_lt _ hK;have hold:(l.map enc).flatten[m]? =(enc<|l[m / K]'hq)[m % K]? :=by
   conv=>lhs;rw[Ej]
   exact Iv (dK l) (by rw[List.length_map];exact hq) Gh (by rw[List.getElem?_map,List.getElem?_eq_getElem hq];rfl)
  have dS:m / K<(l.set i c').length:=by rw[List.length_set];exact hq
  have vA:((l.set i c').map enc).flatten[m]? =(enc<|(l.set i c')[m / K]'dS)[m % K]? :=by
   conv=>lhs;rw[Ej]
   exact Iv (dK _) (by rw[List.length_map];exact dS) Gh (by rw[List.getElem?_map,List.getElem?_eq_getElem dS];rfl)
  rw[vA,hold];by_cases e:m / K=i
  ·have hci:l[m / K]'hq=c:=by
    have:l[m / K]? =some c:=by rw[e];exact hc
    rw[List.getElem?_eq_getElem hq] at this;injection this
   have ue:(l.set i c')[m / K]'dS=c':=by simp[e]
   rw[ue,hci,hr,Ns _ _ _ _ (by rw[he];exact hj)];have ama:m=i*K+m % K:=by rw[e] at Ej;exact Ej
   by_cases q:j<=m % K/\m % K<j+r.length
   ·rw[if_pos aj,if_pos q];congr 1;omega
   ·rw[if_neg (by intro q2;apply q;omega),if_neg q]
  ·have ue:(l.set i c')[m / K]'dS=l[m / K]'hq:=by rw[List.getElem_set_ne fun e2=>e e2.symm]
   rw[ue,if_neg];intro q;apply e;have h1:m<(i+1)*K:=by rw[Nat.add_mul];omega
   have h2:i*K<=m:=by omega
   have h3:=(Nat.le_div_iff_mul_le hK).2 h2;have h4:=(Nat.div_lt_iff_lt_mul hK).2 h1;omega
 ·rw[if_neg aj,List.getElem?_eq_none (by rw[yc];omega),List.getElem?_eq_none (by rw[yc,List.length_set];omega)]
noncomputable section
def aY(n:Nat)(s:AS):AS:= @Bool.rec (fun _=>AS) s ⟨s.h,s.nx,s.mark,n::s.rd,s.wr⟩<|Nat.blt n s.mark
def fE(n:Nat)(o:Option ae)(s:AS):AS:= @Bool.rec (fun _=>AS) ⟨s.h.put n o,s.nx,s.mark,s.rd,s.wr⟩ ⟨s.h.put n o,s.nx,s.mark,n::s.rd,n::s.wr⟩<|Nat.blt n s.mark
end
section
variable {P:Program} {s:AS} {Ye:aI} {t:Tr AV}
theorem me{o:ae}(h1:Nat.blt n s.nx=true)(h2:s.h.get n=some o):bp n s= .ok o (aY n s):=by obtain⟨hh,nx,mark,rd,wr⟩:=s;have e1:Nat.blt n nx=true:=h1;have e2:hh.get n=some o:=h2;show @Bool.rec (fun _=>R ae) .bad (@Option.rec ae (fun _=>R ae) .bad (fun o=> @Bool.rec (fun _=>R ae) (.ok o ⟨hh,nx,mark,rd,wr⟩) (.ok o ⟨hh,nx,mark,n::rd,wr⟩)<|Nat.blt n mark)<|hh.get n) (Nat.blt n nx)=_;rw[e1,e2];show @Bool.rec (fun _=>R ae) (.ok o ⟨hh,nx,mark,rd,wr⟩) (.ok o ⟨hh,nx,mark,n::rd,wr⟩) (Nat.blt n mark)= .ok o (@Bool.rec (fun _=>AS) ⟨hh,nx,mark,rd,wr⟩ ⟨hh,nx,mark,n::rd,wr⟩<|Nat.blt n mark);cases Nat.blt n mark<;>rfl
theorem fR(n:Nat)(s:AS):(aY n s).h=s.h/\(aY n s).nx=s.nx/\(aY n s).mark=s.mark:=by unfold aY;cases Nat.blt n s.mark<;>exact⟨rfl,rfl,rfl⟩
theorem yH{o:Option ae}{p:ae}(h1:Nat.blt n s.nx=true)(h2:s.h.get n=some p)(h3:p.di=false)(ht:Nat.blt n top=true):bI n o s= .ok () (fE n o s):=by obtain⟨hh,nx,mark,rd,wr⟩:=s;have e1:(Nat.blt n nx&&Nat.blt n top)=true:=and_true.2 ⟨h1,ht⟩;have e2:hh.get n=some p:=h2;show @Bool.rec (fun _=>R Unit) .bad (@Option.rec ae (fun _=>R Unit) .bad (fun p=> @Bool.rec (fun _=>R Unit) (@Bool.rec (fun _=>R Unit) (.ok () ⟨hh.put n o,nx,mark,rd,wr⟩) (.ok () ⟨hh.put n o,nx,mark,n::rd,n::wr⟩)<|Nat.blt n mark) .bad p.di)<|hh.get n) (Nat.blt n nx&&Nat.blt n top)=_;rw[e1,e2];show @Bool.rec (fun _=>R Unit) (@Bool.rec (fun _=>R Unit) (.ok () ⟨hh.put n o,nx,mark,rd,wr⟩) (.ok () ⟨hh.put n o,nx,mark,n::rd,n::wr⟩)<|Nat.blt n mark) .bad p.di=_;rw[h3];show @Bool.rec (fun _=>R Unit) (.ok () ⟨hh.put n o,nx,mark,rd,wr⟩) (.ok () ⟨hh.put n o,nx,mark,n::rd,n::wr⟩) (Nat.blt n mark)= .ok () (@Bool.rec (fun _=>AS) ⟨hh.put n o,nx,mark,rd,wr⟩ ⟨hh.put n o,nx,mark,n::rd,n::wr⟩<|Nat.blt n mark);cases Nat.blt n mark<;>rfl
theorem yA(he:∀x,(enc x).length=K)(l:List α):(l.map enc).flatten.length=l.length*K:=by rw[sq (K:=K) (fun c hc=>by obtain⟨x,_,rfl⟩:=List.mem_map.1 hc;exact he x),List.length_map]
theorem Ue(he:∀x,(enc x).length=K){k:Nat}(hc:l[i]? =some c)(hj:j+k<=K):i*K+j+k<=(l.map enc).flatten.length/\((l.map enc).flatten.drop<|i*K+j).take k=((enc c).drop j).take k:=by
 have hi:=(List.getElem?_eq_some_iff.1 hc).1;have hmul:i*K+K<=l.length*K:=by have:=Nat.mul_le_mul_right K hi;rw[Nat.succ_mul] at this;exact this
 refine⟨by rw[yA he];omega,?_⟩;apply List.ext_getElem?;intro m;rw[List.getElem?_take,List.getElem?_take];split
 ·rename_i hm;rw[List.getElem?_drop,List.getElem?_drop,Nat.add_assoc];exact Iv (fun c hc=>by obtain⟨x,_,rfl⟩:=List.mem_map.1 hc;exact he x) (by rw[List.length_map];exact hi) aj (by rw[List.getElem?_map,hc];rfl)
 ·rfl
theorem Tm(h:l[i]? =some c):(l.set i c')[i]? =some c':=by have hi:=(List.getElem?_eq_some_iff.1 h).1;rw[List.getElem?_set_self hi]
end
end Go.Rn
namespace Go.Rn
variable {ops:Array Oper}
def aeA(ops:Array Oper):Bool:=ops.toList.zipIdx.all fun x=>x.1.after.toList.all fun e=> !Region.binds .any e||decide (e.on<x.2)
def OL(ops:Array Oper)(x y:Oper):Bool:=
 match x.dst with
 |none=>false
 |some d=>(y.looksAt ops).contains d||y.dst == some d
def aeB(ops:Array Oper)(b:Array Nat):Bool:=ops.toList.zipIdx.all fun x=>ops.toList.zipIdx.all fun y=> !(OL ops x.1 y.1)||(Nat.beq x.2 y.2|| !loose b x.2 y.2)
def Pe(ops:Array Oper):Bool:=aeA ops&&aeB ops (CheckFast.beforeF ops)
def sD:Code->Bool
 | .seq a b=>sD a&&sD b
 | .cond _ a b=>sD a&&sD b
 | .block _ b=>sD b
 | .loop b=>sD b
 | .scope b=>sD b
 | .region _ ops draw=> !draw||Pe ops
 | .rangeFunc _ _ a b=>sD a&&sD b
 |_=>true
def af2(P:Program):Bool:=P.funcs.toList.all fun fn=>match fn.body with
 |none=>true
 |some c=>sD c
theorem LN{i:Nat}{o:Oper}(h:ops[i]? =some o):(o,i)∈ops.toList.zipIdx:=by rw[List.mem_zipIdx_iff_getElem?];simpa using h
theorem acU(h:Pe ops=true):JB ops:=by
 unfold Pe at h;obtain⟨h1,h2⟩:=Bool.and_eq_true_iff.1 h;rw[CheckFast.beforeF_eq] at h2;refine⟨fun j o e ho hm hb=>?_,fun i j x y d mA hx hy hd cS=>?_⟩
 ·have:=List.all_eq_true.1 (List.all_eq_true.1 h1 _<|LN ho) e<|Array.mem_toList_iff.2 hm;simp only[hb,Bool.not_true,Bool.false_or,decide_eq_true_eq] at this;exact this
 ·have:=List.all_eq_true.1 (List.all_eq_true.1 h2 _<|LN hx) _<|LN hy;have hc:OL ops x y=true:=by
   unfold OL;rw[hd];simp only[Bool.or_eq_true,beq_iff_eq];rcases cS with q|q
   ·exact .inl<|List.contains_iff_mem.2 q
   ·exact .inr q
  simp only[hc,Bool.not_true,Bool.false_or,Bool.or_eq_true,Bool.not_eq_true'] at this;rcases this with q|q
  ·exact absurd (Nat.beq_eq.mp q) mA
  ·exact q
theorem ZC:∀{c:Code},sD c=true->iu c:=by
 intro c;induction c with
 |seq a b BQ BR=>intro h;obtain⟨h1,h2⟩:=Bool.and_eq_true_iff.1 h;exact⟨BQ h1,BR h2⟩
 |cond _ a b BQ BR=>intro h;obtain⟨h1,h2⟩:=Bool.and_eq_true_iff.1 h;exact⟨BQ h1,BR h2⟩
 |block _ b ih=>intro h;exact ih h
 |loop b ih=>intro h;exact ih h
 |scope b ih=>intro h;exact ih h
 |region id ops draw=>intro h hd;subst hd;exact acU h
 |rangeFunc _ _ a b BQ BR=>intro h;obtain⟨h1,h2⟩:=Bool.and_eq_true_iff.1 h;exact⟨BQ h1,BR h2⟩
 |_=>intro _;trivial
theorem alK{P:Program}(hm:P.follows .mixedOrders=true)(h:af2 P=true):bE P:=by refine⟨hm,fun f fn body hf hb=>?_⟩;have:=List.all_eq_true.1 h fn (List.mem_of_getElem?<|by simpa using hf);rw[hb] at this;exact ZC this
end Go.Rn
namespace Go.Rn
open Go.RowKit
noncomputable section
end
end Go.Rn
namespace Go.Rn
open Go.RowKit
noncomputable section
end
section
variable {P:Program} {s s1:AS} {Ye:aI} {t:Tr AV}
end
end Go.Rn
namespace Go.Rn
end Go.Rn
namespace Go.Rn
open Go.RowKit
variable {ρ σ:aw} {x:AV} {v:Value}
theorem acV(k:IntKind)(lo hi:Int)(n:Int)(h:lo<=n/\n<=hi)(hk:(k.signed=true/\lo= -(2 ^ (k.bits - 1):Int)/\hi=(2 ^ (k.bits - 1):Int) - 1/\(2 ^ k.bits:Int)=2*(2 ^ (k.bits - 1):Int)/\(0:Int)<(2 ^ (k.bits - 1):Int))\/(k.signed=false/\lo=0/\hi=(2 ^ k.bits:Int) - 1)):IntKind.wrap k n=n:=by
 unfold IntKind.wrap;rcases hk with⟨hs,h1,h2,h3,h4⟩|⟨hs,h1,h2⟩
 ·simp only[hs,Bool.true_and,decide_eq_true_eq];subst h1;subst h2;rw[h3];generalize (2 ^ (k.bits - 1):Int)=p at*;by_cases q:0<=n
  ·have:n % (2*p)=n:=Int.emod_eq_of_lt q aj;rw[this,if_neg aj]
  ·have:n % (2*p)=n+2*p:=by rw[←Int.add_emod_right,Int.emod_eq_of_lt aj aj]
   rw[this,if_pos aj];omega
 ·simp only[hs,Bool.false_and];subst h1;subst h2;have:n % (2 ^ k.bits:Int)=n:=Int.emod_eq_of_lt h.1 aj;simp[this]
theorem Y9{n:Int}(h: -9223372036854775808<=n/\n<=9223372036854775807):IntKind.wrap .i64 n=n:=acV .i64 _ _ n h<|.inl ⟨rfl,by decide,by decide,by decide,by decide⟩
section
variable {P:Program} {s s1:AS} {Ye:aI} {t:Tr AV}
end
def AV.bZ(x:AV):Bool:=match x with
 | .U n _ _=>Nat.ble top n
 |x=>x.flat
def AV.kr(x:AV):Bool:=match x with
 | .agg l=>l.all AV.bZ
 |x=>x.bZ
def AV.hi(x:AV):Bool:=match x with
 | .agg l=>l.all AV.bZ
 | .tuple l=>l.all AV.kr
 |x=>x.bZ
def jq(ρ σ:aw):Prop:=∀k x,top<=k->ρ k=some x->σ k=some x
theorem qv.hi(h:jq ρ σ){n b sh:Nat}(ht:top<=n)(k:qv ρ n b sh):qv σ n b sh:=.inr ⟨ht,fun e=>k.high ht (by
 cases q:ρ (hn n b sh) with
 |none=>rfl
 |some x=>rw[h _ _ (fZ _ _ _) q] at e;cases e)⟩
theorem VR.flat(h:x.flat=true)(k:VR ρ x v):VR σ x v:=by
 cases x<;>first|(simp only[VR] at k ⊢;exact k)|(cases h;done)|skip
 case slice a len cap=>cases a with
  |some _=>cases h
  |none=>cases cap with
   |known c=>simp only[VR] at k ⊢;exact k
   |ak _ _=>cases h
   |lost=>cases h
 all_goals
  rename_i a;cases a with
  |none=>simp only[VR] at k ⊢;exact k
  |some _=>cases h
theorem AV.uO(ks:jq ρ σ)(h:x.bZ=true)(k:VR ρ x v):VR σ x v:=by
 unfold AV.bZ at h;split at h
 ·have ht:=aL.1 h;simp only[VR] at k ⊢;exact k.imp id fun⟨b,sh,c,q1,q2⟩=>⟨b,sh,c,q1.hi ks ht,q2⟩
 ·exact VR.flat h k
theorem AV.Nt(ks:jq ρ σ):∀{l:List AV} {vs:List Value},l.all AV.bZ=true->ay ρ l vs->ay σ l vs
 |[],_,_,hv=>by simpa only[ay] using hv
 |y::l,vs,hy,hv=>by obtain⟨h1,h2⟩:=and_true.1 (show(y.bZ&&l.all AV.bZ)=true from hy);simp only[ay] at hv ⊢;obtain⟨a,as,e,h3,h4⟩:=hv;exact⟨a,as,e,AV.uO ks h1 h3,AV.Nt ks h2 h4⟩
theorem AV.aeC(ks:jq ρ σ)(h:x.kr=true)(k:VR ρ x v):VR σ x v:=by
 unfold AV.kr at h;split at h
 ·simp only[VR] at k ⊢;obtain⟨a,e,q⟩:=k;exact⟨a,e,AV.Nt ks h q⟩
 ·exact AV.uO ks h k
theorem AV.Uf(ks:jq ρ σ):∀{l:List AV} {vs:List Value},l.all AV.kr=true->ay ρ l vs->ay σ l vs
 |[],_,_,hv=>by simpa only[ay] using hv
 |y::l,vs,hy,hv=>by obtain⟨h1,h2⟩:=and_true.1 (show(y.kr&&l.all AV.kr)=true from hy);simp only[ay] at hv ⊢;obtain⟨a,as,e,h3,h4⟩:=hv;exact⟨a,as,e,AV.aeC ks h1 h3,AV.Uf ks h2 h4⟩
theorem AV.pd(ks:jq ρ σ)(h:x.hi=true)(k:VR ρ x v):VR σ x v:=by
 unfold AV.hi at h;split at h
 ·simp only[VR] at k ⊢;obtain⟨a,e,q⟩:=k;exact⟨a,e,AV.Nt ks h q⟩
 ·simp only[VR] at k ⊢;obtain⟨a,e,q⟩:=k;exact⟨a,e,AV.Uf ks h q⟩
 ·exact AV.uO ks h k
theorem AV.Ba(ks:jq ρ σ):∀{l:List AV} {vs:List Value},l.all AV.hi=true->ay ρ l vs->ay σ l vs
 |[],_,_,hv=>by simpa only[ay] using hv
 |y::l,vs,hy,hv=>by obtain⟨h1,h2⟩:=and_true.1 (show(y.hi&&l.all AV.hi)=true from hy);simp only[ay] at hv ⊢;obtain⟨a,as,e,h3,h4⟩:=hv;exact⟨a,as,e,AV.pd ks h1 h3,AV.Ba ks h2 h4⟩
theorem aeD:jq ρ<|gj ρ:=fun k x hk e=>by unfold gj;rw[if_pos hk];exact e
end Go.Rn
namespace Go.Rn
open Go.RowKit
def pv(sp:Sp)(g:FuncId)(m:aI->List AV->M AV):Sp:=fun f=>bif Nat.beq f g then some m else sp f
theorem RO{sp:Sp}{g:FuncId}{m m':aI->List AV->M AV}{f:FuncId}(h:pv sp g m f=some m'):(f=g/\m'=m)\/sp f=some m':=by
 unfold pv at h;cases e:Nat.beq f g with
 |true=>rw[e] at h;injection h with h;exact .inl ⟨Nat.eq_of_beq_eq_true e,h.symm⟩
 |false=>rw[e] at h;exact .inr h
end Go.Rn
namespace Go.Rn
end Go.Rn
namespace Go.Rn
open Go.RowKit
section
variable {P:Program} {B:aJ} {ρ:aw} {w:World} {s s1:AS}
end
end Go.Rn
namespace Go.Rn
open Go.RowKit
noncomputable section
def dP(J:Nat)(h0:Tr ae)(ns:List Nat)(s:AS):AS:=match fH J h0 ns s with| .ok _ s1=>s1| .bad=>s
def qB(J:Nat)(h0:Tr ae)(ns:List Nat)(s:AS):Bool:=match fH J h0 ns s with| .ok _ _=>true| .bad=>false
end
theorem wY{J:Nat}{h0:Tr ae}{ns:List Nat}{s:AS}(h:qB J h0 ns s=true):fH J h0 ns s= .ok () (dP J h0 ns s):=by
 unfold qB at h;unfold dP;cases e:fH J h0 ns s with
 |bad=>rw[e] at h;cases h
 |ok u s1=>rfl
section
variable {P:Program} {s s1:AS} {Ye:aI} {t:Tr AV}
end
def ze(n:Int):Prop:= -9223372036854775808<=n/\n<=9223372036854775807
instance (n:Int):Decidable<|ze n:=by unfold ze;infer_instance
end Go.Rn
namespace Go.Rn
open Go.RowKit
variable {va:Bool} {rs ps:Array TypeId} {e:TypeId} {P:Program}
def Iw(P:Program):DataW (List UInt8)->Option FuncId->Bool
 | .nil,none=>true
 | .held (b::r),some f=>(List.range P.funcs.size).filter (fun f=>(P.funcs[f]?).any (·.name.toUTF8.data.toList == b::r)) == [f]
 |_,_=>false
def AM(P:Program):List (DataW<|List UInt8)->List (Option FuncId)->Bool
 |[],[]=>true
 |d::ds,f::fs=>Iw P d f&&AM P ds fs
 |_,_=>false
def af3(P:Program)(d:DataW<|List UInt8)(fs:List<|Option FuncId):Bool:=
 match d with
 | .agg ds=>AM P ds fs
 |_=>false
def Ix:Option FuncId->AV
 |none=>.nilFunc
 |some f=>.func (.func f) [] []
def C2:Option FuncId->Value
 |none=>.nilFunc
 |some f=>.func (.func f) #[] #[]
theorem alL(ρ:aw)(f:Option FuncId):VR ρ (Ix f)<|C2 f:=by
 cases f with
 |none=>simp only[Ix,C2,VR]
 |some f=>simp only[Ix,C2,VR,ay];exact⟨rfl,_,_,rfl,rfl,rfl⟩
theorem Tn{α β:Type}{f:α->Option β}:∀{l:List α} {r:List β},l.mapM f=some r->l.length=r.length/\∀(i:Nat) (x:α),l[i]? =some x->∃y,r[i]? =some y/\f x=some y
 |[],r,h=>by simp at h;subst h;exact⟨rfl,fun i x hx=>by simp at hx⟩
 |a::l,r,h=>by
  rw[List.mapM_cons] at h;cases e:f a with
  |none=>simp[e] at h
  |some b=>
   cases e2:l.mapM f with
   |none=>simp[e,e2] at h
   |some bs=>
    simp[e,e2] at h;subst h;obtain⟨h1,h2⟩:=Tn e2;refine⟨by simp[h1],fun i x hx=>?_⟩;cases i with
    |zero=>simp at hx;subst hx;exact⟨b,rfl,e⟩
    |succ i=>simp at hx;obtain⟨y,h3,h4⟩:=h2 i x hx;exact⟨y,by simpa using h3,h4⟩
theorem Yz{w:World}{fuel:Nat}{v:Value}{d:DataW<|List UInt8}{q:List MemPlace}{f:Option FuncId}(he:P.underlying e=some (.func ps rs va))(h:DataW.trod (funcToken P) P w 0 (fun _=>true) true fuel e [v]=some (d,q))(hk:Iw P d f=true):v=C2 f:=by
 unfold Iw at hk;split at hk
 ·cases fuel with
  |zero=>simp[DataW.trod] at h
  |succ n=>cases v<;>simp[DataW.trod,he] at h;rfl
 ·exact func_of_trod he (by simpa using hk) h
 ·cases hk
theorem Ru{P:Program}:∀{ds:List<|DataW<|List UInt8} {fs:List<|Option FuncId},AM P ds fs=true->ds.length=fs.length/\∀(i:Nat) d f,ds[i]? =some d->fs[i]? =some f->Iw P d f=true
 |[],[],_=>⟨rfl,fun i d f h=>by simp at h⟩
 |[],_::_,h=>by simp[AM] at h
 |_::_,[],h=>by simp[AM] at h
 |d::ds,f::fs,h=>by
  simp only[AM,Bool.and_eq_true] at h;obtain⟨h1,h2⟩:=Ru h.2;refine⟨by simp[h1],fun i a b ha hb=>?_⟩;cases i with
  |zero=>simp at ha hb;subst ha;subst hb;exact h.1
  |succ i=>simp at ha hb;exact h2 i a b ha hb
theorem alJ{W:World}{name:String}{d:DataW Unit}{g:Nat}{t:TypeId}{n:Nat}{fs:List<|Option FuncId}(h:funcsAt P W name d)(hg:P.globalNamed name=some g)(hty:(P.globals[g]?).map (·.type)=some t)(ht:P.underlying t=some (.array n e))(he:P.underlying e=some (.func ps rs va))(hc:P.cellsOf e=1)(hct:P.cellsOf t=n)(hd:af3 P d.funcsOut fs=true):
 ∃c ty fr,W.heap[g]? =some (.cells c ty fr)/\fs.length=c.size/\∀(i:Nat) f,fs[i]? =some f->c[i]? =some (C2 f):=by
 obtain⟨g',t',cs,fuel,p,h1,h2,h3,h4⟩:=h;obtain rfl:g=g':=Option.some.inj<|hg.symm.trans h1;obtain rfl:t=t':=Option.some.inj<|hty.symm.trans h2;have mI:∃ty fr,W.heap[g]? =some (.cells cs ty fr):=by
  unfold World.var? at h3;rw[hg] at h3;simp only[Option.bind_some] at h3;split at h3
  ·rename_i c ty fr e;injection h3 with h3;subst h3;exact⟨ty,fr,e⟩
  ·cases h3
 obtain⟨ty,fr,mI⟩:=mI;cases fuel with
 |zero=>simp[DataW.trod] at h4
 |succ m=>
  rw[DataW.trod_step] at h4;unfold DataW.trodStep at h4;simp only[ht,hc,Nat.mul_one] at h4;split at h4
  ·rename_i hlen;rw[Option.map_eq_some_iff] at h4;obtain⟨xs,h5,h6⟩:=h4;obtain⟨h7,h8⟩:=Tn h5;have ah1:d.funcsOut= .agg (xs.map (·.1)):=by injection h6 with h6 _;exact h6.symm
   rw[ah1] at hd;obtain⟨h9,gE⟩:=Ru (show AM P (xs.map (·.1)) fs=true from hd);have hxl:xs.length=fs.length:=by simpa using h9
   have get:∀(i:Nat) f,fs[i]? =some f->cs[i]? =some (C2 f):=by
    intro i f hf;have hi:i<fs.length:=(List.getElem?_eq_some_iff.1 hf).1;obtain⟨y,ud,pH⟩:=h8 i i (by rw[List.getElem?_range (by simp at h7;omega)]);obtain⟨v,hv⟩:∃v,(cs.toList.drop i).take 1=[v]:=by
     cases hq:(cs.toList.drop i).take 1 with
     |nil=>
      rw[hq] at pH;cases m with
      |zero=>simp[DataW.trod] at pH
      |succ k=>simp[DataW.trod,he] at pH
     |cons v l=>
      have:((cs.toList.drop i).take 1).length<=1:=List.length_take_le _ _;rw[hq] at this;cases l with
      |nil=>exact⟨v,rfl⟩
      |cons=>simp at this
    rw[hv] at pH;have Gc:=Yz (f:=f) (d:=y.1) (q:=y.2) he pH<|gE i y.1 f (by rw[List.getElem?_map,ud];rfl) hf;have:(cs.toList.drop i)[0]? =some v:=by
     have:((cs.toList.drop i).take 1)[0]? =some v:=by rw[hv];rfl
     rw[List.getElem?_take_of_lt aj] at this;exact this
    rw[List.getElem?_drop,Nat.add_zero,Array.getElem?_toList] at this;rw[this,Gc]
   refine⟨cs,ty,fr,mI,?_,get⟩;have VE:=hlen;rw[hct] at VE;simp at VE h7;omega
  ·cases h4
theorem abB(l:List AV)(hl:l.length<=top)(i:Nat)(hi:i<l.length):(Tr.fill l 0 .nil).get i=l[i]? :=by rw[Tr.wq _ _ _ _ aj,if_pos aj];simp
end Go.Rn
namespace Go.Rn
open Go.RowKit
noncomputable section
end
end Go.Rn
namespace Go.Rn
open Go.RowKit
noncomputable section
end
section
variable {P:Program} {B:aJ} {J:Nat} {s s1:AS} {Ye:aI} {t:Tr AV} {ops:Array Oper} {f nt i:Nat} {K:List Item} {G:AF->AS->Prop} {acc:List dt} {rs:List ResultVar} {v v':AV}
end
section
variable {P:Program} {s s1:AS} {Ye:aI} {t:Tr AV}
end
noncomputable section
end
section
variable {P:Program} {F:Nat->Option (List AV)} {sp:Sp} {g n k:Nat} {ad:Option<|Nat×Nat} {cp:cL} {s:AS} {l:List AV} {a b c d:ByteArray} {n1 n2 n3 n4:Nat}
end
end Go.Rn
namespace Go.Rn
open Go.RowKit
noncomputable section
end
end Go.Rn
namespace Go.Rn
end Go.Rn
namespace Go.Rn
open Go.RowKit
variable {n:Nat} {α:Type} {y x:Operand} {ty e:TypeId} {ts:Array TypeId} {l:List α} {i:TypeInfo} {enc:α->List AV}
section
variable {P:Program} {s:AS} {Ye:aI} {t:Tr AV}
theorem Ct{off k:Nat}{l:List AV}(h1:Nat.blt n s.nx=true)(h2:s.h.get n=some (.cells l.length (Tr.fill l 0 .nil) []))(hl:l.length<=top)(Xf:0<k)(hk:off+k<=l.length):je n off k s= .ok ((l.drop off).take k) (aY n s):=by
 cases k with
 |zero=>omega
 |succ k=>
  show((bp n).bind fun o=>match o with
   | .cells m t z=>aF (Nat.ble (off+(k+1)) m) <| lift (lr t z (k+1) off)
   | .ro m t=>aF (Nat.ble (off+(k+1)) m) <| lift (lr t [] (k+1) off)
   |_=>fail) s=_
  rw[M.bK<|me h1 h2];show aF (Nat.ble (off+(k+1)) l.length) (lift<|lr (Tr.fill l 0 .nil) [] (k+1) off) (aY n s)=_;rw[aL.2 hk,dB,LC hl _ _ hk];rfl
theorem aeE{L:List α}{len:Nat}{cap:cL}{n0 o0 k0:Nat}(hx:aG t x=some (.slice (some (n,0)) len cap))(hlen:len=l.length)(hy:aG t y=some (.U n0 o0 k0))(h0:ts[0]? =some ty)(hu:P.underlying ty=some (.slice e))(hi:P.info? e=some i)(hz:and (sw i) (oZ P ts[1]?)=true)(dz:OA i.size len cap=true)(dM:top<=n0)(eO:∀s,Ye (.row n0 o0<|k0*i.size) [] s= .ok (.agg (L.map enc).flatten) s)(hk:k0=L.length)(hn:s.h.get n=some (aN enc l))(cR:(Nat.blt n s.nx&&Nat.blt s.nx top)=true)(xL:∀x:α,(enc x).length=i.size/\(enc x).all AV.cj=true)(hb:Nat.beq i.bytes 0=false)(tz:2*(l.length+L.length)*i.bytes+4096*i.bytes<=room)(ll:(l.length+L.length)*i.size<=top):
 ∃rd wr,(∀k∈rd,k=n\/k∈s.rd)/\(∀k∈wr,k=n\/k∈s.wr)/\(s.mark=0->rd=s.rd/\wr=s.wr)/\(dG P<|.call ⟨.builtin .append, #[x,y],ts⟩).val Ye t s= .ok (.slice (some (s.nx,0)) (l++L).length<|.ak (l++L).length i.size) ⟨(s.h.put n none).put s.nx<|some<|aN enc<|l++L,s.nx+1,s.mark,rd,wr⟩:=by
 subst hlen;subst hk;obtain⟨fu,B6⟩:=and_true.1 cR;have ah2:=(blt_eq _ _).mp fu;have BC:=(blt_eq _ _).mp B6;have oB:∀l:List α,(l.map enc).flatten.length=l.length*i.size:=fun l=>by
  have:=sq (K:=i.size) (l:=l.map enc) fun c hc=>by obtain⟨a,_,rfl⟩:=List.mem_map.1 hc;exact(xL a).1
  rw[this,List.length_map]
 have vx:∀l:List α,(l.map enc).flatten.all AV.cj=true:=by
  intro l;induction l with
  |nil=>rfl
  |cons x l ih=>simp only[List.map_cons,List.flatten_cons,List.all_append,ih,(xL x).2,Bool.and_true]
 have bJ:(l.map enc).flatten.length<=top:=by rw[oB];have:=Nat.mul_le_mul_right i.size (show l.length<=l.length+L.length by omega);omega
 have OM:∃rd,(∀k∈rd,k=n\/k∈s.rd)/\(s.mark=0->rd=s.rd)/\je n 0 (l.length*i.size) s= .ok (l.map enc).flatten ⟨s.h,s.nx,s.mark,rd,s.wr⟩:=by
  cases hk:l.length*i.size with
  |zero=>have:(l.map enc).flatten=[]:=List.eq_nil_of_length_eq_zero (by rw[oB,hk]);rw[this];exact⟨s.rd,fun k h=>.inr h,fun _=>rfl,rfl⟩
  |succ k=>
   have hr:=Ct (n:=n) (off:=0) (k:=k+1) (l:=(l.map enc).flatten) (s:=s) fu hn bJ (Nat.succ_pos _) (by rw[oB,hk];omega);rw[List.drop_zero, ←hk, ←oB,List.take_length] at hr;rw[←hk, ←oB];refine⟨(aY n s).rd,?_,fun hm=>?_,?_⟩
   ·intro k h;unfold aY at h;cases q:Nat.blt n s.mark with
    |false=>rw[q] at h;exact .inr h
    |true=>rw[q] at h;rcases List.mem_cons.1 h with h|h;exact .inl h;exact .inr h
   ·unfold aY;rw[hm,show Nat.blt n 0=false from by cases q:Nat.blt n 0 with|false=>rfl|true=>have:=(blt_eq _ _).mp q;omega]
   ·rw[hr];congr 1;unfold aY;cases Nat.blt n s.mark<;>rfl
 obtain⟨gk,a1,a2,a3⟩:=OM;have pq:∃rd wr,(∀k∈rd,k=n\/k∈s.rd)/\(∀k∈wr,k=n\/k∈s.wr)/\(s.mark=0->rd=s.rd/\wr=s.wr)/\
  ((bp n).bind fun ob=>aF ob.yC <| (bI n none).bind fun _=>grown i.size i.bytes (l.length+L.length) (l.map enc).flatten (L.map enc).flatten) ⟨s.h,s.nx,s.mark,gk,s.wr⟩= .ok (.slice (some (s.nx,0)) (l.length+L.length)<|.ak (l.length+L.length) i.size) ⟨(s.h.put n none).put s.nx<|some<|aN enc<|l++L,s.nx+1,s.mark,rd,wr⟩:=by
  rw[M.bK<|me (s:=⟨s.h,s.nx,s.mark,gk,s.wr⟩) fu hn];rw[show(aN enc l).yC=true from rfl,dB];obtain⟨b1,b2,b3⟩:=fR n ⟨s.h,s.nx,s.mark,gk,s.wr⟩;rw[M.bK<|yH (o:=none) (p:=aN enc l) (s:=aY n ⟨s.h,s.nx,s.mark,gk,s.wr⟩) (by rw[b2];exact fu) (by rw[b1];exact hn) rfl (by rw[blt_eq];omega)];have Pf:(l.map enc).flatten++(L.map enc).flatten=((l++L).map enc).flatten:=by rw[List.map_append,List.flatten_append]
  unfold grown;rw[show(and (Nat.ble (2*(l.length+L.length)*i.bytes+4096*i.bytes) room)<|not<|Nat.beq i.bytes 0)=true from and_true.2 ⟨aL.2 tz,by rw[hb];rfl⟩,dB,Pf];have hw:∃rd wr,(∀k∈rd,k=n\/k∈s.rd)/\(∀k∈wr,k=n\/k∈s.wr)/\(s.mark=0->rd=s.rd/\wr=s.wr)/\fE n none (aY n ⟨s.h,s.nx,s.mark,gk,s.wr⟩)=⟨s.h.put n none,s.nx,s.mark,rd,wr⟩:=by
   unfold fE aY;cases q:Nat.blt n s.mark with
   |false=>refine⟨gk,s.wr,a1,fun k h=>.inr h,fun hm=>⟨a2 hm,rfl⟩,?_⟩;show(@Bool.rec (fun _=>AS) _ _<|Nat.blt n s.mark)=_;rw[q]
   |true=>
    refine⟨n::n::gk,n::s.wr,?_,?_,fun hm=>?_,?_⟩
    ·intro k h;rcases List.mem_cons.1 h with h|h
     ·exact .inl h
     ·rcases List.mem_cons.1 h with h|h
      ·exact .inl h
      ·exact a1 k h
    ·intro k h;rcases List.mem_cons.1 h with h|h
     ·exact .inl h
     ·exact .inr h
    ·rw[hm] at q;have:=(blt_eq _ _).mp q;omega
    ·show(@Bool.rec (fun _=>AS) _ _<|Nat.blt n s.mark)=_;rw[q]
  obtain⟨rd,wr,c1,c2,c3,c4⟩:=hw;rw[c4];refine⟨rd,wr,c1,c2,c3,?_⟩;have vA:=HM (s:=⟨s.h.put n none,s.nx,s.mark,rd,wr⟩) (l:=((l++L).map enc).flatten) (by rw[oB];simpa using ll) (vx _) BC;exact(M.bK vA).trans rfl
 obtain⟨rd,wr,d1,d2,d3,d4⟩:=pq;refine⟨rd,wr,d1,d2,d3,?_⟩;show og P .append ts [x,y] Ye t s=_;unfold og;have nH:jT (aG t) [x,y]=some [.slice (some (n,0)) l.length cap,.U n0 o0 L.length]:=by simp only[jT,hx,hy]
 rw[nH,cf];show AJ P Ye ts (.slice (some (n,0)) l.length cap) n0 o0 L.length s=_;unfold AJ;rw[aL.2 dM,dB,h0,cf];simp only[hu];rw[hi,cf,hz,dB,dz,dB];have hr:sB Ye n0 o0 (L.length*i.size) s= .ok (L.map enc).flatten s:=by
  rcases Nat.eq_zero_or_pos (L.length*i.size) with P8|P8
  ·rw[List.eq_nil_of_length_eq_zero<|(oB L).trans P8,P8];rfl
  rw[show sB Ye n0 o0 (L.length*i.size)=(Ye (.row n0 o0<|L.length*i.size) []).bind fun x=>match x with
   | .agg l=>aF (Nat.beq l.length<|L.length*i.size) <| M.pure l
   |_=>fail from by obtain⟨m,hm⟩:∃m,L.length*i.size=m+1:=⟨L.length*i.size - 1,by omega⟩;rw[hm];rfl]
  rw[M.bK<|eO s];show aF (Nat.beq (L.map enc).flatten.length<|L.length*i.size) (M.pure (L.map enc).flatten) s=_;rw[oB,eg.2 rfl,dB];rfl
 rw[M.bK hr,M.bK a3,d4];simp
theorem aeF{c:α}{m:Nat}(hx:aG t x=some (.slice (some (n,0)) l.length<|.ak l.length i.size))(hy:aG t y=some (.slice (some (m,0)) 1<|.known 1))(h0:ts[0]? =some ty)(hu:P.underlying ty=some (.slice e))(hi:P.info? e=some i)(hz:and (sw i) (oZ P ts[1]?)=true)(hn:s.h.get n=some (aN enc l))(hm:s.h.get m=some (.cells (enc c).length (Tr.fill (enc c) 0 .nil) []))(cR:(Nat.blt n s.nx&&(Nat.blt m s.nx&&Nat.blt s.nx top))=true)(xL:∀x:α,(enc x).length=i.size/\(enc x).all AV.cj=true)(DS:0<i.size)(hb:Nat.beq i.bytes 0=false)(tz:2*(l.length+1)*i.bytes+4096*i.bytes<=room)(ll:(l.length+1)*i.size<=top):
 ∃rd wr,(∀k∈rd,k=n\/k=m\/k∈s.rd)/\(∀k∈wr,k=n\/k∈s.wr)/\(s.mark=0->rd=s.rd/\wr=s.wr)/\(dG P<|.call ⟨.builtin .append, #[x,y],ts⟩).val Ye t s= .ok (.slice (some (s.nx,0)) (l++[c]).length<|.ak (l++[c]).length i.size) ⟨(s.h.put n none).put s.nx<|some<|aN enc<|l++[c],s.nx+1,s.mark,rd,wr⟩:=by
 obtain⟨fu,cR⟩:=and_true.1 cR;obtain⟨eB,B6⟩:=and_true.1 cR;have ah2:=(blt_eq _ _).mp fu;have BC:=(blt_eq _ _).mp B6;have oB:∀l:List α,(l.map enc).flatten.length=l.length*i.size:=fun l=>by
  have:=sq (K:=i.size) (l:=l.map enc) fun c hc=>by obtain⟨a,_,rfl⟩:=List.mem_map.1 hc;exact(xL a).1
  rw[this,List.length_map]
 have vx:∀l:List α,(l.map enc).flatten.all AV.cj=true:=by
  intro l;induction l with
  |nil=>rfl
  |cons x l ih=>simp only[List.map_cons,List.flatten_cons,List.all_append,ih,(xL x).2,Bool.and_true]
 have Wh:(l.length+1)*i.size=l.length*i.size+i.size:=by rw[Nat.add_mul,Nat.one_mul]
 have bJ:(l.map enc).flatten.length<=top:=by rw[oB];omega
 have qy:∀{k q:Nat} {s':AS},k∈(aY q s').rd->k=q\/k∈s'.rd:=by
  intro k q s' h;unfold aY at h;cases z:Nat.blt q s'.mark with
  |false=>rw[z] at h;exact .inr h
  |true=>rw[z] at h;rcases List.mem_cons.1 h with h|h;exact .inl h;exact .inr h
 have lY:∀(q:Nat) (s':AS),s'.mark=0->aY q s'=s':=by intro q s' h;unfold aY;rw[h,show Nat.blt q 0=false from by cases z:Nat.blt q 0 with|false=>rfl|true=>have:=(blt_eq _ _).mp z;omega]
 have VF:∀(q:Nat) (s':AS),aY q s'=⟨s'.h,s'.nx,s'.mark,(aY q s').rd,s'.wr⟩:=by intro q s';unfold aY;cases Nat.blt q s'.mark<;>rfl
 have hf:firstCells i.size 1 (.slice (some (m,0)) 1<|.known 1) s= .ok (enc c) (aY m s):=by rw[Lj iJ,Nat.one_mul];have hr:=Ct (n:=m) (off:=0) (k:=i.size) (l:=enc c) (s:=s) eB hm (by rw[(xL c).1];omega) DS (by rw[(xL c).1];omega);rw[hr,List.drop_zero, ←(xL c).1,List.take_length]
 let s1:AS:=⟨s.h,s.nx,s.mark,(aY m s).rd,s.wr⟩;have jb:aY m s=s1:=VF m s;have OM:∃rd,(∀k∈rd,k=n\/k∈s1.rd)/\(s.mark=0->rd=s1.rd)/\je n 0 (l.length*i.size) s1= .ok (l.map enc).flatten ⟨s.h,s.nx,s.mark,rd,s.wr⟩:=by
  cases hk:l.length*i.size with
  |zero=>have:(l.map enc).flatten=[]:=List.eq_nil_of_length_eq_zero (by rw[oB,hk]);rw[this];exact⟨s1.rd,fun k h=>.inr h,fun _=>rfl,rfl⟩
  |succ k=>have hr:=Ct (n:=n) (off:=0) (k:=k+1) (l:=(l.map enc).flatten) (s:=s1) fu hn bJ (Nat.succ_pos _) (by rw[oB,hk];omega);rw[List.drop_zero, ←hk, ←oB,List.take_length] at hr;rw[←hk, ←oB];exact⟨(aY n s1).rd,fun k h=>qy h,fun zN=>by rw[lY n s1 zN],hr.trans<|congrArg _<|VF n s1⟩
 obtain⟨gk,a1,a2,a3⟩:=OM;have pq:∃rd wr,(∀k∈rd,k=n\/k∈s1.rd)/\(∀k∈wr,k=n\/k∈s.wr)/\(s.mark=0->rd=s1.rd/\wr=s.wr)/\
  ((bp n).bind fun ob=>aF ob.yC <| (bI n none).bind fun _=>grown i.size i.bytes (l.length+1) (l.map enc).flatten<|enc c) ⟨s.h,s.nx,s.mark,gk,s.wr⟩= .ok (.slice (some (s.nx,0)) (l.length+1)<|.ak (l.length+1) i.size) ⟨(s.h.put n none).put s.nx<|some<|aN enc<|l++[c],s.nx+1,s.mark,rd,wr⟩:=by
  rw[M.bK<|me (s:=⟨s.h,s.nx,s.mark,gk,s.wr⟩) fu hn];rw[show(aN enc l).yC=true from rfl,dB];obtain⟨b1,b2,b3⟩:=fR n ⟨s.h,s.nx,s.mark,gk,s.wr⟩;rw[M.bK<|yH (o:=none) (p:=aN enc l) (s:=aY n ⟨s.h,s.nx,s.mark,gk,s.wr⟩) (by rw[b2];exact fu) (by rw[b1];exact hn) rfl (by rw[blt_eq];omega)];have Pf:(l.map enc).flatten++enc c=((l++[c]).map enc).flatten:=by simp
  unfold grown;rw[show(and (Nat.ble (2*(l.length+1)*i.bytes+4096*i.bytes) room)<|not<|Nat.beq i.bytes 0)=true from and_true.2 ⟨aL.2 tz,by rw[hb];rfl⟩,dB,Pf];have hw:∃rd wr,(∀k∈rd,k=n\/k∈s1.rd)/\(∀k∈wr,k=n\/k∈s.wr)/\(s.mark=0->rd=s1.rd/\wr=s.wr)/\fE n none (aY n ⟨s.h,s.nx,s.mark,gk,s.wr⟩)=⟨s.h.put n none,s.nx,s.mark,rd,wr⟩:=by
   unfold fE aY;cases q:Nat.blt n s.mark with
   |false=>refine⟨gk,s.wr,a1,fun k h=>.inr h,fun hm=>⟨a2 hm,rfl⟩,?_⟩;show(@Bool.rec (fun _=>AS) _ _<|Nat.blt n s.mark)=_;rw[q]
   |true=>
    refine⟨n::n::gk,n::s.wr,?_,?_,fun hm=>?_,?_⟩
    ·intro k h;rcases List.mem_cons.1 h with h|h
     ·exact .inl h
     ·rcases List.mem_cons.1 h with h|h
      ·exact .inl h
      ·exact a1 k h
    ·intro k h;rcases List.mem_cons.1 h with h|h
     ·exact .inl h
     ·exact .inr h
    ·rw[hm] at q;have:=(blt_eq _ _).mp q;omega
    ·show(@Bool.rec (fun _=>AS) _ _<|Nat.blt n s.mark)=_;rw[q]
  obtain⟨rd,wr,c1,c2,c3,c4⟩:=hw;rw[c4];refine⟨rd,wr,c1,c2,c3,?_⟩;have vA:=HM (s:=⟨s.h.put n none,s.nx,s.mark,rd,wr⟩) (l:=((l++[c]).map enc).flatten) (by rw[oB];simpa using ll) (vx _) BC;exact(M.bK vA).trans rfl
 obtain⟨rd,wr,d1,d2,d3,d4⟩:=pq;refine⟨rd,wr,fun k h=>?_,d2,fun h=>⟨(d3 h).1.trans (by show(aY m s).rd=s.rd;rw[lY m s h]),(d3 h).2⟩,?_⟩
 ·rcases d1 k h with h|h
  ·exact .inl h
  ·exact .inr<|qy h
 show og P .append ts [x,y] Ye t s=_;unfold og;have nH:jT (aG t) [x,y]=some [.slice (some (n,0)) l.length<|.ak l.length i.size,.slice (some (m,0)) 1<|.known 1]:=by simp only[jT,hx,hy]
 rw[nH,cf];show oX P ts (.slice (some (n,0)) l.length<|.ak l.length i.size) (.slice (some (m,0)) 1<|.known 1) s=_;unfold oX;rw[h0,cf];simp only[hu];rw[hi,cf,hz,dB];show((firstCells i.size 1<|.slice (some (m,0)) 1<|.known 1).bind fun new=>aF (Nat.beq new.length<|1*i.size) <| qR i.size i.bytes (some (n,0)) l.length (.ak l.length i.size) 1 new) s=_;rw[M.bK hf,(xL c).1,Nat.one_mul,eg.2 rfl,dB,jb];show(aF (Nat.beq i.size i.size) <| match Nat.ble (l.length+1) l.length with
  |true=>match (some (n,0):Option<|Nat×Nat) with
   |some (m,o)=>(wt m (o+l.length*i.size)<|enc c).bind fun _=>M.pure (.slice (some (m,o)) (l.length+1)<|.ak l.length i.size)
   |none=>fail
  |false=>match (some (n,0):Option<|Nat×Nat) with
   |some (m,0)=>(je m 0<|l.length*i.size).bind fun dy=>(bp m).bind fun o=>aF o.yC <| (bI m none).bind fun _=>grown i.size i.bytes (l.length+1) dy (enc c)
   |_=>fail) s1=_
 have Gi:Nat.ble (l.length+1) l.length=false:=by
  cases q:Nat.ble (l.length+1) l.length with
  |false=>rfl
  |true=>have:=aL.1 q;omega
 rw[eg.2 rfl,dB];simp only[Gi];rw[M.bK a3,d4];simp
end
end Go.Rn
namespace Go.Rn
open Go.RowKit
variable {x i:Operand} {ty kt et:TypeId} {n:Nat} {k:Int}
section
variable {P:Program} {s s1:AS} {Ye:aI} {t:Tr AV}
noncomputable def bG(m:List<|Int×Int):ae:=.jQ<|cY m
def lA:List (Int×Int)->Int->Bool
 |[],_=>false
 |p::l,k=>if p.1=k then true else lA l k
theorem To(k:Int):∀(m:List<|Int×Int) (i:Nat),(lA m k=false/\kR (.int .i64 k) (cY m) i=some none)\/∃j,lA m k=true/\kR (.int .i64 k) (cY m) i=some (some (j,.int .i64<|getM m k))
 |[],i=>.inl ⟨rfl,rfl⟩
 |p::l,i=>by
  have hf:kR (.int .i64 k) (cY<|p::l) i=(match some (k == p.1) with|none=>none|some true=>some (some (i,.int .i64 p.2))|some false=>kR (.int .i64 k) (cY l)<|i+1):=rfl;by_cases e:p.1=k
  ·refine .inr ⟨i,by unfold lA;rw[if_pos e],?_⟩;rw[hf,show(k == p.1)=true by simp[e],show getM (p::l) k=p.2 by simp[getM,e]]
  ·have cn:(k == p.1)=false:=by simp;exact fun q=>e q.symm
   rw[hf,cn,show lA (p::l) k=lA l k by simp[lA,e],show getM (p::l) k=getM l k by simp[getM,e]];exact To k l<|i+1
theorem aeG{m:List<|Int×Int}(hx:aG t x=some (.map<|some n))(hi:aG t i=some (.int .i64 k))(hu:P.underlying ty=some (.map kt et))(hk:oy P 10000 kt (.int .i64 k)=true)(hp:plainKey P kt (.int .i64 k)=true)(hz:qi P et=some (.int .i64 0))(hn:s.h.get n=some (bG m))(cR:Nat.blt n s.nx=true):(dG P<|.lookup ty x i true).val Ye t s= .ok (.tuple [.int .i64 (if lA m k=true then getM m k else 0),.bool<|lA m k]) (aY n s):=by
 show wK P ty x i true Ye t s=_;unfold wK;rw[hx,hi,cf,cf];unfold yE;simp only[hu];have hf:yO P kt (.int .i64 k) (.map<|some n) s= .ok (cY m) (aY n s):=by
  show((bp n).bind fun o=>match o with
   | .map es _=>M.pure es
   | .jQ es=>aF (or (plainKey P kt<|.int .i64 k)<|short es) <| M.pure es
   |_=>fail) s=_
  rw[M.bK<|me cR hn];show(aF (or (plainKey P kt<|.int .i64 k)<|short<|cY m) <| M.pure<|cY m) (aY n s)=_;rw[hp,show(or true<|short<|cY m)=true from rfl,dB];rfl
 rw[M.bK hf,hk,dB];have P9:findKey P kt (.int .i64 k) (cY m)=kR (.int .i64 k) (cY m) 0:=by unfold findKey;simp only[tW,hp]
 rw[P9];rcases To k m 0 with⟨h1,h2⟩|⟨j,h1,h2⟩
 ·rw[h2,cf,h1];show(aA (qi P et) fun z=>M.pure<|zL true z false) (aY n s)=_;rw[hz,cf];rfl
 ·rw[h2,cf,h1];rfl
theorem aeH{y:Operand}{v:Int}{m:List<|Int×Int}(hx:aG t x=some (.map<|some n))(hi:aG t i=some (.int .i64 k))(hy:aG t y=some (.int .i64 v))(hu:P.underlying ty=some (.map kt et))(hk:oy P 10000 kt (.int .i64 k)=true)(hp:plainKey P kt (.int .i64 k)=true)(hn:s.h.get n=some (bG m))(q1:Nat.blt n s.nx=true)(q2:Nat.blt n top=true):(dG P<|.mapUpdate ty x i y).val Ye t s= .ok (.tuple []) (fE n (some<|bG<|gA m k v)<|aY n s):=by
 show pZ P ty x i y Ye t s=_;unfold pZ;rw[hx,hi,hy,cf,cf,cf];have w:∀o:ae,bI n (some o) (aY n s)= .ok () (fE n (some o)<|aY n s):=fun o=>yH (by rw[(fR n s).2.1];exact q1) (by rw[(fR n s).1];exact hn) rfl q2;have ah3:wV P ty (.map<|some n) (.int .i64 k) (.int .i64 v) s= .ok () (fE n (some<|bG<|gA m k v)<|aY n s):=by
  unfold wV;simp only[hu];rw[M.bK<|me q1 hn];show(aF (and (plainKey P kt<|.int .i64 k)<|oy P 10000 kt<|.int .i64 k) <| aA (findKey P kt (.int .i64 k)<|cY m) fun f=>Au n (.int .i64 k) (.int .i64 v) (cY m) f) (aY n s)=_;rw[hk,hp,show(and true true)=true from rfl,dB];have P9:findKey P kt (.int .i64 k) (cY m)=kR (.int .i64 k) (cY m) 0:=by unfold findKey;simp only[tW,hp]
  rw[P9];rcases Tk k m 0 with⟨h1,_,h3⟩|⟨j,z,h1,_,h3,h4⟩
  ·rw[h1,cf];show bI n (some<|.jQ<|cY m++[(.int .i64 k,.int .i64 v)]) (aY n s)=_;rw[w,h3 v];simp only[bG,cY,List.map_append,List.map_cons,List.map_nil]
  ·rw[h1,cf];show bI n (some<|.jQ<|putAt (cY m) (0+j) (.int .i64 k)<|.int .i64 v) (aY n s)=_;rw[Nat.zero_add,w,(h4 v).1];rfl
 rw[M.bK ah3];rfl
end
end Go.Rn
namespace Go.Rn
open Go.RowKit
variable {n k:Nat} {l L2 L1:List AV} {y x:Operand} {ty e:TypeId} {ts:Array TypeId} {i:TypeInfo} {rD:cL}
section
variable {P:Program} {s:AS} {Ye:aI} {t:Tr AV}
theorem SA{s:AS}(h1:Nat.blt n s.nx=true)(h2:s.h.get n=some (.cells l.length (Tr.fill l 0 .nil) []))(hl:l.length<=top)(hk:k<=l.length):
 ∃rd,(∀x∈rd,x=n\/x∈s.rd)/\(s.mark=0->rd=s.rd)/\je n 0 k s= .ok (l.take k) ⟨s.h,s.nx,s.mark,rd,s.wr⟩:=by
 cases k with
 |zero=>exact⟨s.rd,fun x h=>.inr h,fun _=>rfl,rfl⟩
 |succ k=>
  have hr:=Ct (n:=n) (off:=0) (k:=k+1) (l:=l) (s:=s) h1 h2 hl (Nat.succ_pos _) aj;rw[List.drop_zero] at hr;refine⟨(aY n s).rd,?_,fun hm=>?_,?_⟩
  ·intro k h;unfold aY at h;cases q:Nat.blt n s.mark with
   |false=>rw[q] at h;exact .inr h
   |true=>rw[q] at h;rcases List.mem_cons.1 h with h|h;exact .inl h;exact .inr h
  ·unfold aY;rw[hm,show Nat.blt n 0=false from by cases q:Nat.blt n 0 with|false=>rfl|true=>have:=(blt_eq _ _).mp q;omega]
  ·rw[hr];congr 1;unfold aY;cases Nat.blt n s.mark<;>rfl
theorem aeI{m len:Nat}(hx:aG t x=some (.slice (some (n,0)) len<|.known len))(hy:aG t y=some (.slice (some (m,0)) k rD))(h0:ts[0]? =some ty)(hu:P.underlying ty=some (.slice e))(hi:P.info? e=some i)(hz:and (sw i) (oZ P ts[1]?)=true)(hk:1<=k)(hn:s.h.get n=some (.cells L1.length (Tr.fill L1 0 .nil) []))(hm:s.h.get m=some (.cells L2.length (Tr.fill L2 0 .nil) []))(Kq:L1.length<=top)(x8:L2.length<=top)(h1:len*i.size<=L1.length)(h2:k*i.size<=L2.length)(he:L1.take (len*i.size)++L2.take (k*i.size)=l)(cR:(Nat.blt n s.nx&&(Nat.blt m s.nx&&Nat.blt s.nx top))=true)(vx:l.all AV.cj=true)(hb:Nat.beq i.bytes 0=false)(tz:2*(len+k)*i.bytes+4096*i.bytes<=room)(ll:l.length<=top):
 ∃rd wr,(∀q∈rd,q=n\/q=m\/q∈s.rd)/\(∀q∈wr,q∈s.wr)/\(s.mark=0->rd=s.rd/\wr=s.wr)/\(dG P<|.call ⟨.builtin .append, #[x,y],ts⟩).val Ye t s= .ok (.slice (some (s.nx,0)) (len+k)<|.ak (len+k) i.size) ⟨s.h.put s.nx<|some<|.cells l.length (Tr.fill l 0 .nil) [],s.nx+1,s.mark,rd,wr⟩:=by
 obtain⟨fu,cR⟩:=and_true.1 cR;obtain⟨eB,B6⟩:=and_true.1 cR;have BC:=(blt_eq _ _).mp B6;have hf:firstCells i.size k (.slice (some (m,0)) k rD) s=je m 0 (k*i.size) s:=by
  cases k with
  |zero=>omega
  |succ k=>cases rD<;>rfl
 obtain⟨gk,a1,a2,a3⟩:=SA eB hm x8 h2;obtain⟨zM,b1,b2,b3⟩:=SA (s:=⟨s.h,s.nx,s.mark,gk,s.wr⟩) fu hn Kq h1;refine⟨zM,s.wr,fun q hq=>?_,fun q hq=>hq,fun zN=>⟨(b2 zN).trans<|a2 zN,rfl⟩,?_⟩
 ·rcases b1 q hq with h|h
  ·exact .inl h
  ·exact .inr<|a1 q h
 show og P .append ts [x,y] Ye t s=_;unfold og;have nH:jT (aG t) [x,y]=some [.slice (some (n,0)) len<|.known len,.slice (some (m,0)) k rD]:=by simp only[jT,hx,hy]
 rw[nH,cf];show oX P ts (.slice (some (n,0)) len<|.known len) (.slice (some (m,0)) k rD) s=_;unfold oX;rw[h0,cf];simp only[hu];rw[hi,cf,hz,dB];show(aA (some k) fun B7=>(firstCells i.size B7<|.slice (some (m,0)) k rD).bind fun new=>aF (Nat.beq new.length<|B7*i.size) <| qR i.size i.bytes (some (n,0)) len (.known len) B7 new) s=_;rw[cf,M.bK<|hf.trans a3];have ON:(L2.take<|k*i.size).length=k*i.size:=by rw[List.length_take];omega
 rw[ON,eg.2 rfl,dB];unfold qR;have Gi:Nat.ble (len+k) len=false:=by cases q:Nat.ble (len+k) len with|false=>rfl|true=>have:=aL.1 q;omega
 simp only[Gi];have Qa:firstCells i.size len (.slice (some (n,0)) len<|.known len) ⟨s.h,s.nx,s.mark,gk,s.wr⟩=je n 0 (len*i.size) ⟨s.h,s.nx,s.mark,gk,s.wr⟩:=by cases len<;>rfl
 rw[M.bK<|Qa.trans b3];unfold grown;rw[show(and (Nat.ble (2*(len+k)*i.bytes+4096*i.bytes) room)<|not<|Nat.beq i.bytes 0)=true from and_true.2 ⟨aL.2 tz,by rw[hb];rfl⟩,dB,he];have vA:=HM (s:=⟨s.h,s.nx,s.mark,zM,s.wr⟩) (l:=l) ll vx BC;exact(M.bK vA).trans rfl
noncomputable def pw(o:ae)(s:AS):AS:=⟨s.h.put s.nx<|some o,s.nx+1,s.mark,s.rd,s.wr⟩
theorem aeJ{m len:Nat}(hx:aG t x=some (.slice (some (n,0)) len<|.known len))(hy:aG t y=some (.slice (some (m,0)) k rD))(h0:ts[0]? =some ty)(hu:P.underlying ty=some (.slice e))(hi:P.info? e=some i)(hz:and (sw i) (oZ P ts[1]?)=true)(hlen:1<=len)(hk:1<=k)(hs:1<=i.size)(hn:s.h.get n=some (.cells L1.length (Tr.fill L1 0 .nil) []))(hm:s.h.get m=some (.cells L2.length (Tr.fill L2 0 .nil) []))(Kq:L1.length<=top)(x8:L2.length<=top)(h1:len*i.size<=L1.length)(h2:k*i.size<=L2.length)(he:L1.take (len*i.size)++L2.take (k*i.size)=l)(cR:(Nat.blt n s.nx&&(Nat.blt m s.nx&&Nat.blt s.nx top))=true)(vx:l.all AV.cj=true)(hb:Nat.beq i.bytes 0=false)(tz:2*(len+k)*i.bytes+4096*i.bytes<=room)(ll:l.length<=top):
 (dG P<|.call ⟨.builtin .append, #[x,y],ts⟩).val Ye t s= .ok (.slice (some (s.nx,0)) (len+k)<|.ak (len+k) i.size) (pw (.cells l.length (Tr.fill l 0 .nil) [])<|aY n<|aY m s):=by
 obtain⟨fu,cR⟩:=and_true.1 cR;obtain⟨eB,B6⟩:=and_true.1 cR;have BC:=(blt_eq _ _).mp B6;have hf:firstCells i.size k (.slice (some (m,0)) k rD) s=je m 0 (k*i.size) s:=by
  cases k with
  |zero=>omega
  |succ k=>cases rD<;>rfl
 have p1:0<k*i.size:=Nat.mul_pos aj aj;have p2:0<len*i.size:=Nat.mul_pos aj aj;have a3:=Ct (n:=m) (off:=0) (k:=k*i.size) (l:=L2) (s:=s) eB hm x8 p1 aj;have b3:=Ct (n:=n) (off:=0) (k:=len*i.size) (l:=L1) (s:=aY m s) (by rw[(fR m s).2.1];exact fu) (by rw[(fR m s).1];exact hn) Kq p2 aj;rw[List.drop_zero] at a3 b3;show og P .append ts [x,y] Ye t s=_;unfold og;have nH:jT (aG t) [x,y]=some [.slice (some (n,0)) len<|.known len,.slice (some (m,0)) k rD]:=by simp only[jT,hx,hy]
 rw[nH,cf];show oX P ts (.slice (some (n,0)) len<|.known len) (.slice (some (m,0)) k rD) s=_;unfold oX;rw[h0,cf];simp only[hu];rw[hi,cf,hz,dB];show(aA (some k) fun B7=>(firstCells i.size B7<|.slice (some (m,0)) k rD).bind fun new=>aF (Nat.beq new.length<|B7*i.size) <| qR i.size i.bytes (some (n,0)) len (.known len) B7 new) s=_;rw[cf,M.bK<|hf.trans a3];have ON:(L2.take<|k*i.size).length=k*i.size:=by rw[List.length_take];omega
 rw[ON,eg.2 rfl,dB];unfold qR;have Gi:Nat.ble (len+k) len=false:=by cases q:Nat.ble (len+k) len with|false=>rfl|true=>have:=aL.1 q;omega
 simp only[Gi];have Qa:firstCells i.size len (.slice (some (n,0)) len<|.known len) (aY m s)=je n 0 (len*i.size) (aY m s):=by
  cases len with
  |zero=>omega
  |succ k=>rfl
 rw[M.bK<|Qa.trans b3];unfold grown;rw[show(and (Nat.ble (2*(len+k)*i.bytes+4096*i.bytes) room)<|not<|Nat.beq i.bytes 0)=true from and_true.2 ⟨aL.2 tz,by rw[hb];rfl⟩,dB,he];have cM:(aY n<|aY m s).nx=s.nx:=by rw[(fR n _).2.1,(fR m _).2.1]
 have vA:=HM (s:=aY n<|aY m s) (l:=l) ll vx (by rw[cM];exact BC);rw[cM] at vA;refine(M.bK vA).trans ?_;unfold pw;rw[cM];rfl
end
end Go.Rn
