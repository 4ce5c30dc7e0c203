import Derived.Test.YtgnieaajkdangaaDoorRnGD
import Derived.CheckFast
import Derived.Lib.Join
import Derived.Lib.ItoaNum
import Derived.LaidMore
import Derived.LaidHandle
import Derived.Lib.LaidTab
import Derived.Sort.Grow
import Derived.Deep.Draws
set_option maxRecDepth 100000
set_option maxHeartbeats 8000000
set_option linter.unusedSimpArgs false
namespace Go.Rn
open Go.RowKit
variable {k n:Nat} {x:AV} {br:AF} {f:FuncId} {F:Nat->Option (List AV)} {vs:Array Value} {j:Option Code} {fn:Func} {body:Code} {args:List AV}
noncomputable section
def cr.L3:cr->Bool
 | .go _=>false
 | .leave _ _=>true
def l6(P:Program)(call:bf)(fr:AF):M cr:=fun s=>
 @dite (R cr) (∃k,∃x s1,cY P call k fr s= .ok x s1/\x.L3=true) (Classical.propDecidable _) (fun h=>cY P call h.choose fr s) (fun _=>.bad)
def pN(P:Program)(f ntmps:Nat)(rs:List ResultVar)(body:Code)(call:bf)(args:List AV):M AV:=
  bC (Nat.ble (max ntmps args.length) top) <|
  (l6 P call ⟨f,iD args,max ntmps args.length,[.code body],[],none⟩).bind fun st=>
    @cr.rec (fun _=>M AV) (fun _=>fail) (fun fr j=>finish P rs fr j) st
def qq(P:Program)(call:bf)(l:Nat)(args:List AV):M AV:=(getLoop l).bind fun o=>match o with
  | .loop _ _ fn t nt ps a b _=>
    bC (and (Nat.beq args.length ps.length) (ps.all fun p=>Nat.blt p nt)) <|
    (l6 P call ⟨fn,lD ps args t,nt,[.code a,.beginRound,.code b],[],some l⟩).bind fun st=>
      @cr.rec (fun _=>M AV) (fun _=>fail) (fun _ j=>endRound l j) st
  |_=>fail
abbrev Sp:=FuncId->Option (bf->List AV->M AV)
def kV(P:Program)(sp:Sp)(f:FuncId):bf->List AV->M AV:=
  match sp f with
  |some m=>m
  | none=>match P.funcs[f]? with
    |none=>fun _ _=>fail
    | some fn=>match fn.body with
      |none=>fun _ _=>fail
      | some body=>match fn.name == "runtime.NumGoroutine" with
        |true=>fun _ _=>fail
        |false=>pN P f fn.ntmps fn.results.toList body
def mV(F:Nat->Option (List AV))(n o k:Nat):M AV:=
 bh (F n) fun l=>bC (Nat.ble (o+k) l.length) <| M.pure (.agg ((l.drop o).take k))
def bV(P:Program)(sp:Sp)(F:Nat->Option (List AV)):Nat->bf
  | 0=>fun t _=>match t with
    | .row n o k=>mV F n o k
    |_=>fail
  | n+1=>fun t args=>match t with
    | .fn f=>kV P sp f (bV P sp F n) args
    | .round l=>qq P (bV P sp F n) l args
    | .row n o k=>mV F n o k
end
section
variable {P:Program} {B:aZ} {ρ:Ren} {w:World} {s s1:AS} {call:bf} {b:Frame} {a:Act} {cs:List Frame}
theorem KM{fr:AF}:cY P call (k+1) fr s=((kH P call fr).bind fun x=> @cr.rec (fun _=>M cr) (cY P call k) (fun fr j=>M.pure (.leave fr j)) x) s:=rfl
theorem wj{fr:AF}(h:kH P call fr s= .ok (.go br) s1):cY P call (k+1) fr s=cY P call k br s1:=by
 rw[KM,M.dA h]
theorem TE{fr:AF}(h:kH P call fr s= .ok (.leave br j) s1):cY P call (k+1) fr s= .ok (.leave br j) s1:=by
 rw[KM,M.dA h];rfl
theorem EJ:∀{k k':Nat} {fr br:AF} {j:Option Code} {s s1:AS},cY P call k fr s= .ok (.leave br j) s1->k<=k'->cY P call k' fr s= .ok (.leave br j) s1
  |0,_,_,_,_,_,_,h,_=>by cases h
  |k+1,0,_,_,_,_,_,_,hk=>by omega
  | k+1,k'+1,fr,br,j,s,s1,h,hk=>by
    obtain⟨y,s2,h1,h2⟩:=M.bG (show((kH P call fr).bind fun x=> @cr.rec (fun _=>M cr) (cY P call k) (fun fr j=>M.pure (.leave fr j)) x) s= .ok _ s1 from h)
    cases y with
    |go ja=>rw[wj h1];exact EJ (show cY P call k ja s2=_ from h2) aF
    |leave ja j'=>rw[TE h1];exact h2
theorem A9{fr:AF}(h:cY P call k fr s= .ok (.leave br j) s1):l6 P call fr s= .ok (.leave br j) s1:=by
  have hex:∃k,∃x s1,cY P call k fr s= .ok x s1/\x.L3=true:=⟨k,_,_,h,rfl⟩
  unfold l6
  rw[dif_pos hex]
  obtain⟨x,s2,h1,h2⟩:=hex.choose_spec
  cases x with
  |go _=>cases h2
  | leave rl j2=>
    have e1:=EJ h1 (Nat.le_max_left hex.choose k)
    have e2:=EJ h (Nat.le_max_right hex.choose k)
    rw[e1] at e2
    rw[h1,e2]
theorem Kf{fr:AF}{x:cr}(h:l6 P call fr s= .ok x s1):∃k br j,x= .leave br j/\cY P call k fr s= .ok (.leave br j) s1:=by
  unfold l6 at h
  split at h
  · rename_i hex
    obtain⟨y,s2,h1,h2⟩:=hex.choose_spec
    cases y with
    |go _=>cases h2
    | leave rl j2=>
      rw[h1] at h
      cases h
      exact⟨_,rl,j2,rfl,h1⟩
  · cases h
theorem Local.l6(P:Program){call:bf}(hl:∀t a,Local (call t a))(fr:AF):Local (l6 P call fr):=by
 intro s v s1 fi h
 obtain⟨k,br,j,rfl,h1⟩:=Kf h
 obtain⟨dr,dw,d,al⟩:=Local.cY P hl k fr s _ s1 fi h1
 refine⟨dr,dw,d,fun A m0 t ag hA=>?_⟩
 obtain⟨t1,e1,e2⟩:=al A m0 t ag hA
 exact⟨t1,A9 e1,e2⟩
theorem Local.pN(P:Program)(f n:Nat)(rs:List ResultVar)(body:Code){call:bf}(dL:∀t a,Local (call t a))(args:List AV):Local (pN P f n rs body call args):=
 Local.bC (fun _=>Local.bind (Local.l6 P dL _) (fun x=>by
  cases x with
  |go fr=>exact Local.fail
  |leave fr j=>exact Local.finish P rs fr j))
theorem Local.qq(P:Program){call:bf}(dL:∀t a,Local (call t a))(l:Nat)(args:List AV):Local (qq P call l args):=by
 unfold Rn.qq
 refine Local.bind (Local.getLoop _) (fun o=>?_)
 split
 ·exact Local.bC (fun _=>Local.bind (Local.l6 P dL _) (fun x=>by
   cases x with
   |go fr=>exact Local.fail
   |leave fr j=>exact Local.endRound l j))
 ·exact Local.fail
structure zw (P:Program) (B:aZ) (sp:Sp):Prop where
 loc:∀f m,sp f=some m->∀call:bf,(∀t a,Local (call t a))->∀args,Local (m call args)
 Aq:∀f m,sp f=some m->∀call:bf,hJ P B call->(∀t a,Local (call t a))->∀(args:List AV) (x:AV) (s s1:AS) (ρ:Ren) (w:World) (vs:Array Value),bY s->Rel B ρ s.h w->iJ ρ->dH s.nx s1.nx ρ->
  m call args s= .ok x s1->aQ ρ args vs.toList->kL P ((callFunc f vs).run P w) (lN B ρ s s1 w x)
theorem F3{sp:Sp}{m:bf->List AV->M AV}(h:sp f=some m):kV P sp f=m:=by unfold kV;rw[h]
theorem E5{sp:Sp}(h:sp f=none)(ga:P.funcs[f]? =some fn)(gP:fn.body=some body)(ir:(fn.name == "runtime.NumGoroutine")=false):kV P sp f=pN P f fn.ntmps fn.results.toList body:=by
 unfold kV;simp only[h,ga,gP,ir]
theorem KN(sp:Sp)(f:FuncId):(∃m,sp f=some m/\kV P sp f=m)\/(kV P sp f=fun _ _=>fail)\/(∃fn body,P.funcs[f]? =some fn/\fn.body=some body/\(fn.name == "runtime.NumGoroutine")=false/\kV P sp f=pN P f fn.ntmps fn.results.toList body):=by
  cases e:sp f with
  |some m=>exact .inl ⟨m,rfl,F3 e⟩
  | none=>
    cases e1:P.funcs[f]? with
    |none=>refine .inr (.inl ?_);unfold kV;simp only[e,e1]
    | some fn=>
      cases e2:fn.body with
      |none=>refine .inr (.inl ?_);unfold kV;simp only[e,e1,e2]
      | some body=>
        cases e3:(fn.name == "runtime.NumGoroutine") with
        |true=>refine .inr (.inl ?_);unfold kV;simp only[e,e1,e2,e3]
        |false=>exact .inr (.inr ⟨fn,body,rfl,e2,e3,E5 e e1 e2 e3⟩)
theorem SG(P:Program){sp:Sp}(hs:zw P B sp)(f:FuncId){call:bf}(hl:∀t a,Local (call t a))(args:List AV):Local (kV P sp f call args):=by
 rcases KN (P:=P) sp f with⟨m,e1,e2⟩|e|⟨fn,body,e1,e2,e3,e⟩
 ·rw[e2];exact hs.loc f m e1 call hl args
 ·rw[e];exact Local.fail
 ·rw[e];exact Local.pN P _ _ _ _ hl _
theorem Local.mV(F:Nat->Option (List AV))(n o k:Nat):Local (mV F n o k):=
 Local.bh fun _ _=>Local.bC fun _=>Local.pure _
theorem rF(P:Program){sp:Sp}(hs:zw P B sp)(F:Nat->Option (List AV)):∀(n:Nat) (t:Ih) (args:List AV),Local (bV P sp F n t args)
 |0,.fn _,_=>Local.fail
 |0,.round _,_=>Local.fail
 |0,.row n o k,_=>Local.mV F n o k
 |n+1,.fn f,args=>SG P hs f (fun t a=>rF P hs F n t a) args
 |n+1,.round l,args=>Local.qq P (fun t a=>rF P hs F n t a) l args
 |_+1,.row n o k,_=>Local.mV F n o k
theorem M0{ρ:Ren}{c:Array Value}:∀{l:List AV} {off:Nat},(∀(i:Nat) (x:AV),l[i]? =some x->∃v,c[off+i]? =some v/\VR ρ x v)->∃vs:List Value,vs.length=l.length/\aQ ρ l vs/\∀(j:Nat) (v:Value),vs[j]? =some v->c[off+j]? =some v
  |[],off,_=>⟨[],rfl,by simp only[aQ],fun j v h=>by simp at h⟩
  | x ::l,off,h=>by
    obtain⟨v,h1,h2⟩:=h 0 x rfl
    obtain⟨vs,g1,g2,g3⟩:=M0 (l:=l) (off:=off+1) (fun i y hy=>by
      obtain⟨u,k1,k2⟩:=h (i+1) y (by simpa using hy)
      exact⟨u,by rw[Nat.add_assoc,Nat.add_comm 1 i];exact k1,k2⟩)
    refine⟨v::vs,by simp[g1],by simp only[aQ];exact⟨v,vs,rfl,h2,g2⟩,fun j u hj=>?_⟩
    cases j with
    |zero=>simp at hj;subst hj;simpa using h1
    | succ j=>
      have:=g3 j u (by simpa using hj)
      rw[Nat.add_assoc,Nat.add_comm 1 j] at this;exact this
theorem TF{o:Nat}(h:mV F n o k s= .ok x s1):s1=s/\∃l,F n=some l/\o+k<=l.length/\x= .agg ((l.drop o).take k):=by
 unfold mV at h
 obtain⟨l,h1,h2⟩:=ch h
 obtain⟨h3,h4⟩:=dY h2
 obtain⟨rfl,rfl⟩:=bW h4
 exact⟨rfl,l,h1,bH.1 h3,rfl⟩
theorem Lj(hF:B.F=F){o:Nat}(r:Rel B ρ s.h w)(h:mV F n o k s= .ok x s1):
  s1.h=s.h/\s1.nx=s.nx/\∀b sh,ρ (hn n b sh)≠none->∃l vs,x= .agg l/\vs.length=k/\aQ ρ l vs/\∃c e fr,w.heap[b]? =some (.cells c e fr)/\∀(j:Nat) (v:Value),vs[j]? =some v->c[sh+o+j]? =some v:=by
 obtain⟨rfl,l,h1,h2,rfl⟩:=TF h
 rw[←hF] at h1
 refine⟨rfl,rfl,fun b sh hb=>?_⟩
 obtain⟨_,l',c,e,fr,g1,g2,_,g4⟩:=r.fz n b sh hb
 rw[h1] at g1;cases g1
 obtain⟨vs,q1,q2,q3⟩:=M0 (ρ:=ρ) (c:=c) (l:=(l.drop o).take k) (off:=sh+o) (fun i y hy=>by
  have kU:l[o+i]? =some y:=by
   rw[List.getElem?_take] at hy
   split at hy
   ·rw[List.getElem?_drop] at hy;exact hy
   ·cases hy
  obtain⟨v,k1,k2,_⟩:=g4 (o+i) y kU
  exact⟨v,by rw[Nat.add_assoc];exact k1,VR.mono (BR ρ) _ _ k2⟩)
 refine⟨_,vs,rfl,?_,q2,c,e,fr,g2,q3⟩
 rw[q1,List.length_take,List.length_drop];omega
theorem Kg(fq:P.follows .mixedOrders=true)(hc:hJ P B call)(hl:∀t a,Local (call t a)){af:AF}{x:cr}(cL:Fr ρ af b a)(aW:At B ρ s af.nt af.tmps w a)(hf:dH s.nx s1.nx ρ)(h:l6 P call af s= .ok x s1):nQ P B ρ s s1 w af b cs (lone (b.atR a af.todo) cs w) x:=by
 obtain⟨k,br,j,rfl,h1⟩:=Kf h
 exact Bm fq hc hl k cL aW hf h1
theorem SH(fq:P.follows .mixedOrders=true)(hc:hJ P B call)(hl:∀t a,Local (call t a))(ga:P.funcs[f]? =some fn)(gP:fn.body=some body)(ir:(fn.name == "runtime.NumGoroutine")=false)(aT:gu body)(fi:bY s)(r:Rel B ρ s.h w)(hg:iJ ρ)(hf:dH s.nx s1.nx ρ)(h:pN P f fn.ntmps fn.results.toList body call args s= .ok x s1)(hv:aQ ρ args vs.toList):kL P ((callFunc f vs).run P w) (lN B ρ s s1 w x):=by
  have dL:(callFunc f vs).run P w= .ok (.enter f vs) w:=by
    have y6:(program).run P w= .ok P w:=rfl
    have hn:fn.name≠ "runtime.NumGoroutine" :=by simpa using ir
    simp only[callFunc,Sem.run_bind,y6,Result.andThen_ok,ga,ir,gP]
    simp
  rw[dL]
  unfold pN at h
  obtain⟨h1,h2⟩:=dY h
  have mW:=bH.1 h1
  obtain⟨y,s2,h3,h4⟩:=M.bG h2
  cases y with
  |go fr=>cases h4
  | leave fr j=>
    have P8:finish P fn.results.toList fr j s2= .ok x s1:=h4
    have gz:=(Local.l6 P hl ⟨f,iD args,max fn.ntmps args.length,[.code body],[],none⟩).dD fi h3
    have Ap:=(Local.finish P fn.results.toList fr j).le gz P8
    exact QX ga gP gz (fun cs=>Kg (b:={(default:Frame) with fn:=f,kind:=.normal,roundOf:=none}) (a:={tmps:=vs++Array.replicate (fn.ntmps - vs.size) undef,defers:=[]})
      fq hc hl ⟨rfl,rfl,trivial,rfl,.cons aT .nil⟩ ⟨JD hv _ mW,r,hg,mW,fi⟩ (hf.sub (Nat.le_refl _) Ap) h3) P8
theorem RV(fq:P.follows .mixedOrders=true)(hc:hJ P B call)(hl:∀t a,Local (call t a)){l bl N:Nat}(fi:bY s)(r:Rel B ρ s.h w)(hg:iJ ρ)(hf:dH s.nx s1.nx ρ)(h:qq P call l args s= .ok x s1)(hv:aQ ρ args vs.toList)(oa:ρ l=some (bl,N)):kL P ((Instr.yield bl vs).run P w) (lN B ρ s s1 w x):=by
  unfold qq at h
  obtain⟨o,s2,h1,h2⟩:=M.bG h
  obtain⟨h3,st,fV,fn,t,nt,ps,aa,bb,d,rfl⟩:=vO h1
  obtain⟨h4,h5⟩:=dY h2
  obtain⟨y,s3,h6,h7⟩:=M.bG h5
  obtain⟨q1,q2⟩:=and_true.1 h4
  have hlen:=fT.1 q1
  have hps:∀p∈ps,p<nt:=fun p hp=>by have:=List.all_eq_true.1 q2 p hp;rw[←blt_eq];exact this
  obtain⟨hx,lu,hh,dv⟩:=j0 h3
  have gz:bY s2:=(Local.di _).dD fi h3
  have cQ:l<top:=Nat.lt_of_lt_of_le hx fi.nx
  obtain⟨o',hb,hO,hB⟩:=r.block cQ lu oa
  obtain⟨ta,db,M,rfl,ko,kl,hd,eY⟩:=hO
  have WA:(Instr.yield bl vs).run P w= .ok (.round bl fn ((ps.zip vs.toList).foldl (fun tmps (t,a)=>tmps.setIfInBounds t a) ta) aa bb) w:=by
    have lR:¬(vs.size≠ps.toArray.size):=by
      have:=hv.length
      simp at this ⊢;omega
    simp only[Instr.yield,Sem.run_bind,x9 hb,Result.andThen_ok,if_neg lR,Sem.run_pure]
    rw[←Array.foldl_toList]
    simp
  rw[WA]
  intro c cs
  cases y with
  |go fr=>cases h7
  | leave fr j=>
    have Dh:endRound l j s3= .ok x s1:=h7
    let b:Frame:={(default:Frame) with fn:=fn,kind:=.normal,roundOf:=some bl}
    let a:Act:={tmps:=(ps.zip vs.toList).foldl (fun tmps (t,a)=>tmps.setIfInBounds t a) ta,defers:=[]}
    have my:=(Local.l6 P hl ⟨fn,lD ps args t,nt,[.code aa,.beginRound,.code bb],[],some l⟩).dD gz h6
    have le3:=(Local.endRound l j).le my Dh
    have cL:Fr ρ ⟨fn,lD ps args t,nt,[.code aa,.beginRound,.code bb],[],some l⟩ b a:=⟨rfl,rfl,⟨N,oa⟩,rfl,.cons eY.assign (.cons trivial (.cons eY.body .nil))⟩
    have aW:At B ρ s2 nt (lD ps args t) w a:=⟨Jr kl ko hv hps,by rw[hh];exact r,hg,kl,gz⟩
    obtain⟨σ,a',w',e1,e2,e3,e4,_,_,e6,e7⟩:=Kg (cs:=c::cs) fq hc hl cL aW (by rw[dv];exact hf.sub (Nat.le_refl _) le3) h6
    have lW:Leaves j fr.todo:=e6
    obtain⟨f1,rfl,lT,f2,f3,f4⟩:=Q9 (P:=P) my e2.rel (e1.le _ _ oa) lW.code Dh
    refine⟨.bool j.isNone,lT,⟨σ,by rw[f1, ←dv];exact e1,by simp only[VR],f3,e4.trans f4⟩,?_⟩
    have yT:Frame.round bl fn ((ps.zip vs.toList).foldl (fun tmps (t,a)=>tmps.setIfInBounds t a) ta) aa bb .normal=b.atR a [.code aa,.beginRound,.code bb]:=rfl
    rw[yT]
    refine Steps.trans e7 (.one ?_)
    show step P (lone (b.atR a' fr.todo) (c::cs) w')=_
    unfold Leaves at lW
    split at lW
    · rw[lW];exact stepR_round_end rfl rfl f2
    · obtain⟨k,e⟩:=lW;rw[e];exact stepR_round_ret rfl rfl f2
    · obtain⟨k,e,e'⟩:=lW;rw[e];exact stepR_round_exit rfl rfl e' f2
    · obtain⟨k,e,e'⟩:=lW;rw[e];exact stepR_round_goto rfl rfl e' f2
    · cases lW
theorem Ba(hP:fa P){sp:Sp}(hs:zw P B sp)(hF:B.F=F):∀(n:Nat),hJ P B (bV P sp F n)
  |0=>⟨(fun f args x s s1 ρ w vs _ _ _ _ h _=>by cases h),(fun l b N args x s s1 ρ w vs _ _ _ _ h _ _=>by cases h),(fun n o k x s s1 ρ w _ r h=>Lj hF r h)⟩
  | n+1=>by
    have ih:=Ba hP hs hF n
    refine⟨fun f args x s s1 ρ w vs fi r hg hf h hv=>?_,fun l b N args x s s1 ρ w vs fi r hg hf h hv hl=>RV hP.mixed ih (rF P hs F n) fi r hg hf h hv hl,(fun n o k x s s1 ρ w _ r h=>Lj hF r h)⟩
    have h':kV P sp f (bV P sp F n) args s= .ok x s1:=h
    rcases KN (P:=P) sp f with⟨m,e1,e2⟩|e|⟨fn,body,e1,e2,e3,e⟩
    · rw[e2] at h';exact hs.Aq f m e1 _ ih (rF P hs F n) args x s s1 ρ w vs fi r hg hf h' hv
    · rw[e] at h';cases h'
    · rw[e] at h';exact SH hP.mixed ih (rF P hs F n) e1 e2 e3 (hP.code f fn body e1 e2) fi r hg hf h' hv
end
end Go.Rn
namespace Go.Rn
open Go.RowKit
variable {r:Nat->Nat} {k:Nat}
def aJ(r:Nat->Nat)(x y:AV):Prop:=∀(ρ:Ren) (v:Value),VR ρ x v->VR (fun k=>ρ (r k)) y v
def c8(r:Nat->Nat)(x y:aE):Prop:=∀(ρ:Ren) (N:Nat) (o:Obj),OR ρ N x o->OR (fun k=>ρ (r k)) N y o
def cM(P:Program)(B:aZ)(aI:Nat)(Q:Tr AV->List Nat->Option Code->AS->Prop)(fr:AF)(s:AS):Prop:=
  ∀ (ρ:Ren) (w:World) (b:Frame) (a:Act) (cs:List Frame),Fr ρ fr b a->At B ρ s fr.nt fr.tmps w a->(∀k,s.nx<=k->k<top->ρ k=none)->
    ∃ (br:AF) (j:Option Code) (s1:AS) (σ:Ren) (a':Act) (w':World),Q br.tmps br.defers j s1/\aI<=s1.nx/\(∀k,k<aI->k<top->σ k=ρ k)/\(∀k x,top<=k->ρ k=some x->σ k=some x)/\(∀k,s1.nx<=k->k<top->σ k=none)/\At B σ s1 fr.nt br.tmps w' a'/\qU σ br.defers a'.defers/\cU B w w'/\
      (br.fn=fr.fn/\br.nt=fr.nt/\br.round=fr.round)/\iE br.todo/\Leaves j br.todo/\Steps P (lone (b.atR a fr.todo) cs w) (lone (b.atR a' br.todo) cs w')
section
variable {P:Program} {B:aZ} {aI:Nat} {Q:Tr AV->List Nat->Option Code->AS->Prop} {ρ:Ren} {w:World} {s s1 s2:AS} {call:bf} {fr br:AF} {j:Option Code}
theorem cM.chunk(fq:P.follows .mixedOrders=true)(hc:hJ P B call)(hl:∀t a,Local (call t a))(h:cY P call k fr s= .ok (.go br) s1)(h0:aI<=s.nx)(H:cM P B aI Q br s1):cM P B aI Q fr s:=by
 intro ρ w b a cs cL aW hf
 have qh:=(Local.cY P hl k fr).le aW.dD h
 have Iw:=((Local.cY P hl k fr).dD aW.dD h).nx
 obtain⟨σ,a1,w1,e1,e2,e3,e4,⟨e5,e6,e7⟩,e8,_,e9⟩:=Bm (b:=b) (cs:=cs) fq hc hl k cL aW (fun k h1 _ h3=>hf k h1 h3) h
 have IC:br.fn=fr.fn:=e5
 have lW:br.nt=fr.nt:=e6
 have sQ:br.round=fr.round:=e7
 obtain⟨rl,j,s2,τ,a2,w2,q0,qn,q1,ID,q2,q3,q4,q5,⟨q6,q7,q8⟩,q9,py,q11⟩:=H σ w1 b a1 cs ⟨cL.fn.trans IC.symm,cL.kind,by rw[sQ];exact cL.round.mono e1.le,e3,e8⟩ (by rw[lW];exact e2) (fun k hk ht=>(e1.out k ht aF).trans (hf k aF ht))
 exact⟨rl,j,s2,τ,a2,w2,q0,qn,fun k hk iy=>(q1 k hk iy).trans (e1.out k iy aF),fun k x hk hx=>ID k x hk (e1.le _ _ hx),q2,by rw[←lW];exact q3,q4,e4.trans q5,⟨q6.trans IC,q7.trans lW,q8.trans sQ⟩,q9,py,Steps.trans e9 q11⟩
theorem cM.leave(fq:P.follows .mixedOrders=true)(hc:hJ P B call)(hl:∀t a,Local (call t a))(h:cY P call k fr s= .ok (.leave br j) s1)(h0:aI<=s.nx)(hq:Q br.tmps br.defers j s1):cM P B aI Q fr s:=by
 intro ρ w b a cs cL aW hf
 have qh:=(Local.cY P hl k fr).le aW.dD h
 have Iw:=((Local.cY P hl k fr).dD aW.dD h).nx
 obtain⟨σ,a1,w1,e1,e2,e3,e4,⟨e5,e6,e7⟩,e8,e10,e9⟩:=Bm (b:=b) (cs:=cs) fq hc hl k cL aW (fun k h1 _ h3=>hf k h1 h3) h
 exact⟨br,j,s1,σ,a1,w1,hq,Nat.le_trans h0 qh,fun k hk iy=>e1.out k iy aF,fun k x _ hx=>e1.le _ _ hx,fun k hk ht=>(e1.out k ht aF).trans (hf k aF ht),e2,e3,e4,⟨e5,e6,e7⟩,e8,e10,e9⟩
abbrev iW:=List (Nat×Nat×List AV)
def Marks(fz:iW)(ρ kq:Ren):Prop:=ρ.le kq/\(∀k,k<top->kq k=ρ k)/\∀p∈fz,∀b N,ρ p.1=some (b,N)->kq (hn p.2.1 b 0)≠none
open Classical in
noncomputable def marks(fz:iW)(ρ:Ren):Ren:=fun k=>if ρ k=none/\∃p∈fz,∃b N,ρ p.1=some (b,N)/\k=hn p.2.1 b 0 then some (0,0) else ρ k
theorem Lk(fz:iW)(ρ:Ren):Marks fz ρ (marks fz ρ):=by
 refine⟨fun k x e=>?_,fun k hk=>?_,fun p hp b N e=>?_⟩
 ·unfold marks
  rw[if_neg (fun q=>by rw[e] at q;cases q.1)];exact e
 ·unfold marks
  rw[if_neg (fun⟨_,p,_,b,N,_,q⟩=>by have:=mG p.2.1 b 0;omega)]
 ·unfold marks
  by_cases q:ρ (hn p.2.1 b 0)=none
  ·rw[if_pos ⟨q,p,hp,b,N,e,rfl⟩];exact fun h=>by cases h
  ·rw[if_neg (fun z=>q z.1)];exact q
theorem SI{fz:iW}{ρ:Ren}(h:marks fz ρ k≠none):ρ k≠none\/∃p∈fz,∃b N,ρ p.1=some (b,N)/\k=hn p.2.1 b 0:=by
 unfold marks at h
 split at h
 ·rename_i q;exact .inr q.2
 ·exact .inl h
def jh(fz:iW)(r:Nat->Nat)(x y:AV):Prop:=∀(ρ kq:Ren) (v:Value),Marks fz ρ kq->VR ρ x v->VR (fun k=>kq (r k)) y v
def iH(fz:iW)(r:Nat->Nat)(x y:aE):Prop:=∀(ρ kq:Ren) (N:Nat) (o:Obj),Marks fz ρ kq->OR ρ N x o->OR (fun k=>kq (r k)) N y o
theorem aJ.z{fz:iW}{x y:AV}(h:aJ r x y):jh fz r x y:=fun ρ kq v m hv=>h kq v (VR.mono m.1 _ _ hv)
theorem c8.z{fz:iW}{x y:aE}(h:c8 r x y):iH fz r x y:=fun ρ kq N o m hv=>h kq N o (hv.mono m.1)
def NF(F:Nat->Option (List AV))(h:Tr aE)(p:Nat×Nat×List AV):Prop:=
 p.1<top/\F p.2.1=some p.2.2/\∃N t z,h.get p.1=some (.cells N t z)/\∀i x,p.2.2[i]? =some x->i<N/\cellAt t z i=some x/\x.ct=true/\∀ρ v,VR ρ x v->VR (iS ρ) x v
theorem Rel.aaq{B:aZ}{ρ:Ren}{h h2:Tr aE}{w:World}(fz:iW)(R:Rel B ρ h w)(Ar:∀k,top<=k->r k=k)(hz:∀p∈fz,NF B.F h p)(hh:∀n o2,n<top->h2.get n=some o2->r n<top/\o2.plain=true/\∃o1,h.get (r n)=some o1/\(o2.du=false->o1.du=false)/\iH fz r o1 o2)(ub:∀p∈fz,∀n o2,n<top->h2.get n=some o2->r n≠p.1)(nR:∀n m o p,n<top->m<top->h2.get n=some o->h2.get m=some p->(o.du=false\/p.du=false)->r n=r m->n=m):Rel B (fun k=>marks fz ρ (r k)) h2 w:=by
  have hm:=Lk fz ρ
  refine⟨fun n o hn hg=>?_,fun n m o p b N M hn lU hg Dt eX e1 e2=>?_,fun n m es ex left cur hn hg=>?_,R.size,fun i j m es ex left cur kj mo lJ lM hi _ hg _=>?_,fun n b sh e=>?_⟩
  · obtain⟨a1,_,o1,a3,a4,a5⟩:=hh n o hn hg
    obtain⟨b,N,o',b1,b2,b3,b4⟩:=R.is (r n) o1 a1 a3
    exact⟨b,N,o',(hm.2.1 _ a1).trans b1,b2,a5 ρ _ N o' hm b3,fun q=>b4 (a4 q)⟩
  · obtain⟨a1,_,o1,a3,a4,_⟩:=hh n o hn hg
    obtain⟨c1,_,p1,c3,c4,_⟩:=hh m p lU Dt
    have e1:marks fz ρ (r n)=some (b,N):=e1
    have e2:marks fz ρ (r m)=some (b,M):=e2
    rw[hm.2.1 _ a1] at e1;rw[hm.2.1 _ c1] at e2
    exact nR n m o p hn lU hg Dt eX (R.one (r n) (r m) o1 p1 b N M a1 c1 a3 c3 (eX.imp a4 c4) e1 e2)
  · have:=(hh n _ hn hg).2.1;simp[aE.plain] at this
  · have:=(hh i _ hi hg).2.1;simp[aE.plain] at this
  · have e:marks fz ρ (r (hn n b sh))≠none:=e
    rw[Ar _ (mG _ _ _)] at e
    have hle:(iS ρ).le (iS fun k=>marks fz ρ (r k)):=by
      intro k x e
      unfold iS at e ⊢
      split at e
      · rename_i q
        rw[if_pos q]
        show marks fz ρ (r k)=some x
        rw[Ar k q];exact hm.1 _ _ e
      · cases e
    rcases SI e with e|⟨p,hp,b',N,e1,e2⟩
    · obtain⟨g0,l,c,e',fr,g1,g3,g4,g5⟩:=R.fz n b sh e
      refine⟨g0,l,c,e',fr,g1,g3,fun m o N lU hg iL hr=>?_,fun i x hx=>by obtain⟨v,k1,k2,k3⟩:=g5 i x hx;exact⟨v,k1,VR.mono hle _ _ k2,k3⟩⟩
      obtain⟨a1,_,o1,a3,a4,_⟩:=hh m o lU hg
      exact g4 (r m) o1 N a1 a3 (a4 iL) (by have hr:marks fz ρ (r m)=_:=hr;rw[hm.2.1 _ a1] at hr;exact hr)
    · obtain⟨rfl,rfl,rfl⟩:=MQ e2
      obtain⟨z1,z2,N0,t,z,z3,z4⟩:=hz p hp
      obtain⟨b1,N1,o',k1,k2,k3,k4⟩:=R.is p.1 _ z1 z3
      rw[e1] at k1;cases k1
      obtain⟨c,et,rfl,_,_,row⟩:=k3
      refine⟨.inr (k4 rfl),p.2.2,c,et,_,z2,k2,fun m o M lU hg iL hr=>?_,fun i x hx=>?_⟩
      · obtain⟨a1,_,o1,a3,a4,_⟩:=hh m o lU hg
        have hr:marks fz ρ (r m)=_:=hr
        rw[hm.2.1 _ a1] at hr
        exact ub p hp m o lU hg (R.one (r m) p.1 o1 _ _ _ _ a1 z1 a3 z3 (.inl (a4 iL)) hr e1)
      · obtain⟨i1,i2,i3,i4⟩:=z4 i x hx
        obtain⟨x',v,j1,j2,j3,j4⟩:=row i i1
        rw[i2] at j1;cases j1
        exact⟨v,by rw[Nat.zero_add];exact j3,VR.mono hle _ _ (i4 _ _ j4),i3⟩
theorem cM.weaken{t2:Tr AV}(fz:iW)(r:Nat->Nat)(h0:∀k,k<aI->r k=k)(h1:∀k,s2.nx<=k->k<top->s.nx<=r k/\r k<top)(Ar:∀k,top<=k->r k=k)(hg:fb<=aI)(hf2:bY s2)(hd:fr.defers=[])(hr:fr.round=none)(hz:∀p∈fz,NF B.F s.h p)(ht:∀i y,t2.get i=some y->∃x,fr.tmps.get i=some x/\jh fz r x y)(hh:∀n o2,n<top->s2.h.get n=some o2->r n<top/\o2.plain=true/\∃o1,s.h.get (r n)=some o1/\(o2.du=false->o1.du=false)/\iH fz r o1 o2)(ub:∀p∈fz,∀n o2,n<top->s2.h.get n=some o2->r n≠p.1)(nR:∀n m o p,n<top->m<top->s2.h.get n=some o->s2.h.get m=some p->(o.du=false\/p.du=false)->r n=r m->n=m)(H:cM P B aI Q {fr with tmps:=t2} s2):cM P B aI Q fr s:=by
 intro ρ w b a cs cL aW hf
 have hm:=Lk fz ρ
 have lh:yR (fun k=>marks fz ρ (r k)) fr.round b.roundOf:=by
  have:=cL.round
  rw[hr] at this ⊢
  cases hb:b.roundOf with
  |none=>trivial
  |some l=>rw[hb] at this;cases this
 have YT:qU (fun k=>marks fz ρ (r k)) fr.defers a.defers:=by
  have:=cL.defs
  rw[hd] at this ⊢
  exact this
 have cV:∀k,k<aI->k<top->marks fz ρ (r k)=ρ k:=fun k hk iy=>by rw[h0 k hk];exact hm.2.1 k iy
 have YU:iJ (fun k=>marks fz ρ (r k)):=fun g xL=>by
  obtain⟨N,e⟩:=aW.g g xL
  exact⟨N,(cV g (Nat.lt_of_lt_of_le xL hg) (Nat.lt_of_lt_of_le xL (by unfold fb top;decide))).trans e⟩
 have ko:TR (fun k=>marks fz ρ (r k)) fr.nt t2 a.tmps:=⟨aW.tr.1,fun i y hy=>by
  obtain⟨x,e1,e2⟩:=ht i y hy
  exact e2 ρ _ _ hm (aW.tr.2 i x e1)⟩
 obtain⟨rl,j,s3,τ,a2,w2,q0,qn,q1,ID,q2,q3,q4,q5,q6,q7,q8,q9⟩:=H (fun k=>marks fz ρ (r k)) w b a cs
  ⟨cL.fn,cL.kind,lh,YT,cL.ok⟩ ⟨ko,aW.rel.aaq fz Ar hz hh ub nR,YU,aW.nt,hf2⟩ (fun k hk ht=>(hm.2.1 _ (h1 k hk ht).2).trans (hf _ (h1 k hk ht).1 (h1 k hk ht).2))
 exact⟨rl,j,s3,τ,a2,w2,q0,qn,fun k hk iy=>(q1 k hk iy).trans (cV k hk iy),fun k x hk hx=>ID k x hk (by show marks fz ρ (r k)=_;rw[Ar k hk];exact hm.1 _ _ hx),q2,q3,q4,q5,q6,q7,q8,q9⟩
end
end Go.Rn
namespace Go.Rn
open Go.RowKit
variable {i K:Nat} {d:Option Tmp} {F:Nat->Option (List AV)} {v a:AV} {l:List (List AV)} {c:List AV}
noncomputable section
def eS:List (Nat×AV)->Tr AV
 |[]=>.nil
 |p::l=>(eS l).put p.1 (some p.2)
def nU:List (Nat×Option aE)->Tr aE
 |[]=>.nil
 |p::l=>(nU l).put p.1 p.2
def aM(l:List (Nat×Option aE))(nx:Nat):AS:=⟨nU l,nx,0,[],[]⟩
def M3(P:Program)(f:FuncId):Code:=
  match P.funcs[f]? with
  |none=>.skip
  | some fn=>match fn.body with
    |none=>.skip
    |some c=>c
def aO(P:Program)(f:FuncId)(p:List Nat):Code:=oR p (M3 P f)
def opsOf:Code->Array Oper
 | .region _ ops _=>ops
 |_=> #[]
def jg(P:Program)(call:bf)(nt:Nat)(ops:Array Oper)(i n:Nat)(t:Tr AV):M (Tr AV):=iV P call nt ops ((ops.toList.drop i).take n) t
def p6(ops:Array Oper)(i:Nat):Option (Op×Option Tmp×Option (Nat×Bool)):=
 match ops[i]? with
 |none=>none
 |some o=>some (o.op,o.dst,o.guard)
end
section
variable {P:Program} {B:aZ} {aI:Nat} {Q:Tr AV->List Nat->Option Code->AS->Prop} {ρ:Ren} {w:World} {s s1 s2:AS} {call:bf} {t t1 t2:Tr AV} {ops:Array Oper} {nt:Nat}
theorem EK{o:Oper}{l:List Oper}:iV P call nt ops (o::l) t=(fL P call nt ops o t).bind (iV P call nt ops l):=rfl
theorem Ll:∀{l1 l2:List Oper} {t t1:Tr AV} {s s1:AS},iV P call nt ops l1 t s= .ok t1 s1->iV P call nt ops (l1++l2) t s=iV P call nt ops l2 t1 s1
  |[],l2,t,t1,s,s1,h=>by cases h;rfl
  | o::l1,l2,t,t1,s,s1,h=>by
    rw[EK] at h
    obtain⟨t',s',h1,h2⟩:=M.bG h
    show iV P call nt ops (o::(l1++l2)) t s=_
    rw[EK,M.dA h1]
    exact Ll h2
theorem yd{n m:Nat}(h1:jg P call nt ops i n t s= .ok t1 s1)(h2:jg P call nt ops (i+n) m t1 s1= .ok t2 s2):jg P call nt ops i (n+m) t s= .ok t2 s2:=by
 unfold jg at h1 h2 ⊢
 rw[List.take_add,Ll h1,List.drop_drop]
 exact h2
theorem Kh{o:Oper}(ho:ops[i]? =some o)(h:fL P call nt ops o t s= .ok t1 s1):jg P call nt ops i 1 t s= .ok t1 s1:=by
 unfold jg
 have:(ops.toList.drop i).take 1=[o]:=by
  have h1:ops.toList[i]? =some o:=by rw[Array.getElem?_toList];exact ho
  obtain⟨hi,e⟩:=List.getElem?_eq_some_iff.1 h1
  rw[List.drop_eq_getElem_cons hi,e];rfl
 rw[this,EK,M.dA h]
 rfl
theorem Bn{op:Op}{g:Option (Nat×Bool)}(h:p6 ops i=some (op,d,g)):∃o,ops[i]? =some o/\o.op=op/\o.dst=d/\o.guard=g:=by
 unfold p6 at h
 split at h
 ·cases h
 ·rename_i o e
  injection h with h
  injection h with h1 h
  injection h with h2 h3
  exact⟨o,e,h1,h2,h3⟩
theorem op1{op:Op}(ho:p6 ops i=some (op,d,none))(h:(cW P op).val call t s= .ok v s1)(hp:gW nt t d v=some t1):jg P call nt ops i 1 t s= .ok t1 s1:=by
 obtain⟨o,e,rfl,rfl,e3⟩:=Bn ho
 refine Kh e ?_
 unfold fL tZ
 rw[e3]
 show nZ (cW P o.op) o.dst call nt t s=_
 unfold nZ
 rw[M.dA h,hp]
 rfl
theorem aar{op:Op}{g:Nat×Bool}(ho:p6 ops i=some (op,d,some g))(hk:nH ops t g.1=true)(hw:lZ ops g t=true)(h:(cW P op).val call t s= .ok v s1)(hp:gW nt t d v=some t1):jg P call nt ops i 1 t s= .ok t1 s1:=by
 obtain⟨o,e,rfl,rfl,e3⟩:=Bn ho
 refine Kh e ?_
 unfold fL tZ
 rw[e3]
 show o6 ops g (cW P o.op) o.dst call nt t s=_
 unfold o6
 rw[hk,hw,fG]
 show((cW P o.op).val call t).bind (fun v=>lift (gW nt t o.dst v)) s=_
 rw[M.dA h,hp]
 rfl
def Du(F:Nat->Option (List AV))(nm o:Nat)(c:List AV):Prop:=∃row,F nm=some row/\o+c.length<=row.length/\(row.drop o).take c.length=c
def Dv(F:Nat->Option (List AV))(a:AV)(K:Nat)(l:List (List AV)):Prop:=
 (∀c∈l,c.length=K)/\((a= .slice none 0 (.known 0)/\l=[])\/∃nm o row,a= .ae nm o l.length/\top<=nm/\F nm=some row/\o+l.length*K<=row.length/\(row.drop o).take (l.length*K)=l.flatten)
theorem Ep:∀{l:List (List AV)} {K i:Nat} {c:List AV},(∀c∈l,c.length=K)->l[i]? =some c->(l.flatten.drop (i*K)).take K=c
  |[],_,_,_,_,h=>by simp at h
  | x::l,K,0,c,hl,h=>by
    simp at h;subst h
    have hx:=hl x List.mem_cons_self
    rw[Nat.zero_mul,List.drop_zero,List.flatten_cons,List.take_append,hx,Nat.sub_self,List.take_zero,List.append_nil, ←hx,List.take_length]
  | x::l,K,i+1,c,hl,h=>by
    have hx:=hl x List.mem_cons_self
    rw[List.flatten_cons,List.drop_append,hx,show(i+1)*K - K=i*K by rw[Nat.add_mul,Nat.one_mul];omega,List.drop_eq_nil_of_le (by rw[hx,Nat.add_mul,Nat.one_mul];omega),List.nil_append]
    exact Ep (fun c hc=>hl c (List.mem_cons_of_mem _ hc)) (by simpa using h)
theorem Dv.I(h:Dv F a K l)(hc:l[i]? =some c):
  ∃nm o,a= .ae nm o l.length/\top<=nm/\Du F nm (o+i*K) c:=by
 obtain⟨hl,h|⟨nm,o,row,rfl,h2,h3,h4,h5⟩⟩:=h
 ·rw[h.2] at hc;simp at hc
 ·have hi:=(List.getElem?_eq_some_iff.1 hc).1
  have hlen:=hl c (List.mem_of_getElem? hc)
  have hm:(i+1)*K<=l.length*K:=Nat.mul_le_mul_right _ hi
  rw[Nat.add_mul,Nat.one_mul] at hm
  refine⟨nm,o,rfl,h2,row,h3,by rw[hlen];omega,?_⟩
  have:=Ep hl hc
  rw[←h5,List.drop_take,List.drop_drop,List.take_take,Nat.min_eq_left aF] at this
  rw[hlen];exact this
theorem Du.cell{nm o j:Nat}{x:AV}(h:Du F nm o c)(hx:c[j]? =some x):Du F nm (o+j) [x]:=by
 obtain⟨row,h1,h2,h3⟩:=h
 have hj:=(List.getElem?_eq_some_iff.1 hx).1
 refine⟨row,h1,by simp only[List.length_singleton];omega,?_⟩
 have:(row.drop (o+j))[0]? =some x:=by
  rw[List.getElem?_drop,Nat.add_zero]
  have h4:((row.drop o).take c.length)[j]? =some x:=by rw[h3];exact hx
  rw[List.getElem?_take,if_pos hj,List.getElem?_drop] at h4
  exact h4
 cases hd:row.drop (o+j) with
 |nil=>rw[hd] at this;simp at this
 |cons y r=>rw[hd] at this;simp at this;subst this;simp
theorem Dv.len(h:Dv F a K l):(∃b,a= .slice b l.length (.known 0))\/∃nm o,a= .ae nm o l.length:=by
 obtain⟨_,⟨rfl,rfl⟩|⟨nm,o,row,rfl,_⟩⟩:=h
 ·exact .inl ⟨none,rfl⟩
 ·exact .inr ⟨nm,o,rfl⟩
end
end Go.Rn
namespace Go.Rn
open Go.RowKit
section
variable {P:Program} {s s1:AS} {call:bf} {t:Tr AV}
theorem Vd{op:BinOp}{ty yt:TypeId}{x y:Operand}{k:IntKind}{a b:Int}{r:Bool}(hx:aR t x=some (.int k a))(hy:aR t y=some (.int k b))(hs:nD op=false)(hg:tC P op ty x y (.int k a) (.int k b)=true)(hr:sb op k a b=some (.bool r)):
  (cW P (.binOp op ty x y yt)).val call t s= .ok (.bool r) s:=by
 show kK P op ty x y call t s=_
 unfold kK
 rw[hx,hy,dk,dk,hg,fG]
 have:mI P op ty (.int k a) (.int k b)=some (.bool r):=by
  unfold mI
  simp only[hs,decide_true]
  exact hr
 rw[this]
 rfl
end
end Go.Rn
namespace Go.Rn
open Go.RowKit
section
variable {P:Program} {B:aZ} {aI:Nat} {Q:Tr AV->List Nat->Option Code->AS->Prop} {s s1 s2:AS} {call:bf} {t t1 t2:Tr AV} {ops:Array Oper} {nt:Nat}
theorem Ve{op:BinOp}{ty yt:TypeId}{x y:Operand}{k:IntKind}{a b:Int}{r:AV}(hx:aR t x=some (.int k a))(hy:aR t y=some (.int k b))(hs:nD op=false)(hg:tC P op ty x y (.int k a) (.int k b)=true)(hr:sb op k a b=some r):
  (cW P (.binOp op ty x y yt)).val call t s= .ok r s:=by
 show kK P op ty x y call t s=_
 unfold kK
 rw[hx,hy,dk,dk,hg,fG]
 have:mI P op ty (.int k a) (.int k b)=some r:=by
  unfold mI
  simp only[hs,decide_true]
  exact hr
 rw[this]
 rfl
noncomputable def lO(P:Program)(call:bf)(nt:Nat)(ops:Array Oper)(i n:Nat)(t:Tr AV):M (Tr AV×List cT):=kG P call nt ops ((ops.toList.drop i).take n) i t
theorem KO:∀{l1 l2:List Oper} {i:Nat} {t t1 t2:Tr AV} {m1 m2:List cT} {s s1 s2:AS},kG P call nt ops l1 i t s= .ok (t1,m1) s1->kG P call nt ops l2 (i+l1.length) t1 s1= .ok (t2,m2) s2->kG P call nt ops (l1++l2) i t s= .ok (t2,m1++m2) s2
  |[],l2,i,t,t1,t2,m1,m2,s,s1,s2,h,k=>by cases h;exact k
  | o::l1,l2,i,t,t1,t2,m1,m2,s,s1,s2,h,k=>by
    have h':((alone i (fL P call nt ops o t)).bind fun x=>(kG P call nt ops l1 (i+1) x.1).bind fun y=>M.pure (y.1,x.2::y.2)) s= .ok (t1,m1) s1:=h
    obtain⟨x,sx,e1,e2⟩:=M.bG h'
    obtain⟨y,sy,e3,e4⟩:=M.bG e2
    obtain⟨e5,rfl⟩:=bW e4
    injection e5 with e6 e7
    subst e6;subst e7
    have:=KO (i:=i+1) e3 (by rw[show i+1+l1.length=i+(o::l1).length by simp;omega];exact k)
    show((alone i (fL P call nt ops o t)).bind fun x=>(kG P call nt ops (l1++l2) (i+1) x.1).bind fun y=>M.pure (y.1,x.2::y.2)) s=_
    rw[M.dA e1,M.dA this]
    rfl
theorem Bo{i n m N:Nat}{m1 m2:List cT}(hN:ops.size=N)(hi:i+n<=N)(h1:lO P call nt ops i n t s= .ok (t1,m1) s1)(h2:lO P call nt ops (i+n) m t1 s1= .ok (t2,m2) s2):lO P call nt ops i (n+m) t s= .ok (t2,m1++m2) s2:=by
 unfold lO at h1 h2 ⊢
 rw[List.take_add,List.drop_drop]
 refine KO h1 ?_
 rw[List.length_take,List.length_drop,Array.length_toList,hN,Nat.min_eq_left aF]
 exact h2
theorem Bp:∀{l:List (Nat×AV)} {i:Nat} {y:AV},(∀p∈l,p.1<top)->(eS l).get i=some y->(i,y)∈l
  | [],i,y,_,h=>by
    have:(Tr.nil:Tr AV).get i=some y:=h
    rw[Tr.get_nil] at this;cases this
  | p::l,i,y,hl,h=>by
    have h':((eS l).put p.1 (some p.2)).get i=some y:=h
    rw[Tr.qu _ _ _ _ (hl p List.mem_cons_self)] at h'
    by_cases e:i=p.1
    · rw[if_pos e] at h';injection h' with h';subst h';subst e;exact List.mem_cons_self
    · rw[if_neg e] at h';exact List.mem_cons_of_mem _ (Bp (fun q hq=>hl q (List.mem_cons_of_mem _ hq)) h')
theorem tu:∀{l:List (Nat×Option aE)} {i:Nat} {y:aE},(∀p∈l,p.1<top)->(nU l).get i=some y->(i,some y)∈l
  | [],i,y,_,h=>by
    have:(Tr.nil:Tr aE).get i=some y:=h
    rw[Tr.get_nil] at this;cases this
  | p ::l,i,y,hl,h=>by
    have h':((nU l).put p.1 p.2).get i=some y:=h
    rw[Tr.qu _ _ _ _ (hl p List.mem_cons_self)] at h'
    by_cases e:i=p.1
    · rw[if_pos e] at h'
      have:p=(i,some y):=by rw[e, ←h']
      rw[←this];exact List.mem_cons_self
    · rw[if_neg e] at h';exact List.mem_cons_of_mem _ (tu (fun q hq=>hl q (List.mem_cons_of_mem _ hq)) h')
theorem aJ.same(x:AV):aJ (fun k=>k) x x:=fun _ _ h=>h
theorem c8.same(x:aE):c8 (fun k=>k) x x:=fun _ _ _ h=>h
def qP(t:Tr AV):List (Nat×AV)->Prop
 |[]=>True
 |p::l=>t.get p.1=some p.2/\qP t l
def qV(h:Tr aE):List (Nat×Option aE)->Prop
 |[]=>True
 |p::l=>(h.get p.1=p.2/\∀o,p.2=some o->o.plain=true)/\qV h l
theorem qP.mem{t:Tr AV}:∀{l:List (Nat×AV)},qP t l->∀p∈l,t.get p.1=some p.2
  |[],_,p,hp=>by cases hp
  | q::l,h,p,hp=>by
    rcases List.mem_cons.1 hp with rfl|hp
    · exact h.1
    · exact qP.mem h.2 p hp
theorem qV.mem{h:Tr aE}:∀{l:List (Nat×Option aE)},qV h l->∀p∈l,h.get p.1=p.2/\∀o,p.2=some o->o.plain=true
  |[],_,p,hp=>by cases hp
  | q::l,k,p,hp=>by
    rcases List.mem_cons.1 hp with rfl|hp
    · exact k.1
    · exact qV.mem k.2 p hp
def mi{α:Type}(n:Nat):List (Nat×α)->Bool
 |[]=>true
 |p::l=>Nat.blt p.1 n&&mi n l
theorem qx{α:Type}{n:Nat}:∀{l:List (Nat×α)},mi n l=true->∀p∈l,p.1<n
  |[],_,p,hp=>by cases hp
  | q::l,h,p,hp=>by
    obtain⟨h1,h2⟩:=and_true.1 h
    rcases List.mem_cons.1 hp with rfl|hp
    · exact(blt_eq _ _).mp h1
    · exact qx h2 p hp
theorem cM.less{f:FuncId}{K:List Item}{l:List (Nat×AV)}{o:List (Nat×Option aE)}{nx:Nat}(hl:mi top l=true)(ho:mi top o=true)(hn:(Nat.ble s.nx nx&&Nat.ble nx top)=true)(hg:fb<=aI)(ht:qP t l)(hh:qV s.h o)(H:cM P B aI Q ⟨f,eS l,nt,K,[],none⟩ (aM o nx)):cM P B aI Q ⟨f,t,nt,K,[],none⟩ s:=by
 obtain⟨gf,mq⟩:=and_true.1 hn
 have gf:=bH.1 gf
 have mq:=bH.1 mq
 refine cM.weaken (s2:=aM o nx) (t2:=eS l) [] (fun k=>k) (fun _ _=>rfl) (fun k hk ht=>⟨Nat.le_trans gf hk,ht⟩) (fun _ _=>rfl) hg ⟨Nat.zero_le _,mq⟩ rfl rfl (fun _ h=>by cases h) (fun i y hy=>?_) (fun n o2 hn hg=>?_) (fun _ h=>by cases h) (fun n m _ _ _ _ _ _ _ e=>e) H
 ·have:=Bp (fun p hp=>qx hl p hp) hy
  exact⟨y,ht.mem _ this,(aJ.same y).z⟩
 ·have:=tu (fun p hp=>qx ho p hp) hg
  obtain⟨h1,h2⟩:=hh.mem _ this
  exact⟨hn,h2 o2 rfl,o2,h1,id,(c8.same o2).z⟩
end
end Go.Rn
namespace Go.Rn
open Go.RowKit
section
variable {P:Program} {s s1:AS} {call:bf} {t:Tr AV}
theorem Ek{l z:List AV}(hl:l.length<=top):∀(k off:Nat),off+k<=l.length->jJ (Tr.fill l 0 .nil) z k off=some ((l.drop off).take k)
  |0,off,_=>by simp[jJ]
  | k +1,off,h=>by
    have cQ:off<l.length:=by omega
    have hc:cellAt (Tr.fill l 0 .nil) z off=some l[off]:=by
      unfold cellAt
      rw[Tr.rH _ _ _ _ aF,if_pos aF,Nat.sub_zero,List.getElem?_eq_getElem cQ]
    simp only[jJ,hc,Ek hl k (off+1) aF]
    rw[List.drop_eq_getElem_cons cQ,List.take_succ_cons]
noncomputable def aD{α:Type}(enc:α->List AV)(l:List α):aE:=.cells (l.map enc).flatten.length (Tr.fill (l.map enc).flatten 0 .nil) []
theorem Vf{o:aE}(ht:s.nx<top):gR o s= .ok s.nx {s with h:=s.h.put s.nx (some o),nx:=s.nx+1}:=by
 obtain⟨hh,nx,mark,rd,wr⟩:=s
 have e1:Nat.blt nx top=true:=by rw[blt_eq];exact ht
 show @Bool.rec (fun _=>R Nat) .bad (forced nx fun m=>.ok m ⟨hh.put m (some o),m+1,mark,rd,wr⟩) (Nat.blt nx top)=_
 rw[e1,rI]
theorem KP{l:List AV}(hl:l.length<=top)(h1:l.all AV.ct=true)(ht:s.nx<top):newRow l s= .ok s.nx {s with h:=s.h.put s.nx (some (.cells l.length (Tr.fill l 0 .nil) [])),nx:=s.nx+1}:=by
 unfold newRow
 rw[show(and (Nat.ble l.length top) (l.all AV.ct))=true from and_true.2 ⟨bH.2 hl,h1⟩,fG]
 exact Vf ht
end
end Go.Rn
namespace Go.Rn
open Go.RowKit
end Go.Rn
namespace Go.Rn
open Go.RowKit
noncomputable section
def im(m:List (Int×Int)):List (AV×AV):=m.map fun p=>(.int .i64 p.1,.int .i64 p.2)
def eL(m:List (Int×Int)):aE:=.map (im m) m.length
end
def getM:List (Int×Int)->Int->Int
 |[],_=>0
 |p::l,k=>if p.1=k then p.2 else getM l k
def fW:List (Int×Int)->Int->Int->List (Int×Int)
 |[],k,v=>[(k,v)]
 |p::l,k,v=>if p.1=k then(k,v)::l else p::fW l k v
section
variable {P:Program} {s s1:AS} {call:bf} {t:Tr AV}
theorem TG(a b:Int):sameKey (.int .i64 a) (.int .i64 b)=some (a == b):=rfl
theorem E6(k:Int):∀(m:List (Int×Int)) (i:Nat),(jZ (.int .i64 k) (im m) i=some none/\getM m k=0/\∀v,fW m k v=m++[(k,v)])\/
    ∃j y,jZ (.int .i64 k) (im m) i=some (some (i+j,.int .i64 y))/\getM m k=y/\m[j]? =some (k,y)/\∀v,putAt (im m) j (.int .i64 k) (.int .i64 v)=im (fW m k v)/\(fW m k v).length=m.length
  |[],i=>.inl ⟨rfl,rfl,fun _=>rfl⟩
  | p ::l,i=>by
    have hf:jZ (.int .i64 k) (im (p::l)) i=(match some (k == p.1) with|none=>none|some true=>some (some (i,.int .i64 p.2))|some false=>jZ (.int .i64 k) (im l) (i+1)):=rfl
    by_cases e:p.1=k
    · refine .inr ⟨0,p.2,?_,?_,?_,fun v=>⟨?_,?_⟩⟩
      · rw[hf,show(k == p.1)=true by simp[e]];rfl
      · simp[getM,e]
      · simp[←e]
      · simp[fW,e,im,putAt]
      · simp[fW,e]
    · have fD:(k == p.1)=false:=by simp;exact fun q=>e q.symm
      rcases E6 k l (i+1) with⟨h1,h2,h3⟩|⟨j,y,h1,h2,h3,h4⟩
      · refine .inl ⟨?_,?_,fun v=>?_⟩
        · rw[hf,fD];exact h1
        · simp[getM,e,h2]
        · simp[fW,e,h3 v]
      · refine .inr ⟨j+1,y,?_,?_,?_,fun v=>⟨?_,?_⟩⟩
        · rw[hf,fD];show jZ _ _ _=_;rw[h1];congr 3;omega
        · simp[getM,e,h2]
        · simpa using h3
        · have:=(h4 v).1
          simp only[fW,e,if_false]
          show(_:AV×AV)::putAt (im l) j _ _=_::im (fW l k v)
          rw[this]
        · simp[fW,e,(h4 v).2]
end
end Go.Rn
namespace Go.Rn
open Go.RowKit
variable {n m:Nat}
section
variable {r:Nat->Nat}
theorem aJ.int(k:IntKind)(n:Int):aJ r (.int k n) (.int k n):=fun _ _ h=>h
theorem aJ.bool(b:Bool):aJ r (.bool b) (.bool b):=fun _ _ h=>h
theorem aJ.str(s:ByteArray):aJ r (.str s) (.str s):=fun _ _ h=>h
theorem aJ.lY:aJ r (.slice none 0 (.known 0)) (.slice none 0 (.known 0)):=fun _ _ h=>h
theorem aJ.ptr{o:Nat}(e:r m=n):aJ r (.ptr (some (n,o))) (.ptr (some (m,o))):=by
 intro ρ v h
 simp only[VR] at h ⊢
 rw[e];exact h
theorem aJ.map(e:r m=n):aJ r (.map (some n)) (.map (some m)):=by
 intro ρ v h
 simp only[VR] at h ⊢
 rw[e];exact h
theorem aJ.slice{o len:Nat}{c:kT}(e:r m=n):aJ r (.slice (some (n,o)) len c) (.slice (some (m,o)) len c):=by
 intro ρ v h
 cases c<;>simp only[VR] at h ⊢ <;>rw[e]<;>exact h
theorem aJ.ae{o len:Nat}(e:r n=n)(hr:∀k,top<=k->r k=k):aJ r (.ae n o len) (.ae n o len):=by
 intro ρ v h
 simp only[VR] at h ⊢
 refine h.imp id fun⟨b,sh,c,h1,h2⟩=>⟨b,sh,c,h1.imp (fun q=>⟨q.1,(congrArg ρ e).trans q.2⟩) (fun q=>⟨q.1,fun z=>q.2 ((congrArg ρ (hr _ (mG _ _ _))).symm.trans z)⟩),h2⟩
def AV.flat:AV->Bool
 | .bool _| .int _ _| .str _| .w9 _=>true
 | .ptr none| .map none| .nilFunc| .nilIface=>true
 |_=>false
theorem aJ.flat{x:AV}(h:x.flat=true):aJ r x x:=by
 intro ρ v k
 cases x<;>first|exact k|skip
 ·rename_i a;cases a with
  |none=>exact k
  |some _=>cases h
 ·cases h
 ·cases h
 ·cases h
 ·rename_i a;cases a with
  |none=>exact k
  |some _=>cases h
 ·cases h
 ·cases h
 ·cases h
 ·cases h
 ·cases h
def ll(r:Nat->Nat):List AV->List AV->Prop
 |[],[]=>True
 |x::l,y::m=>aJ r x y/\ll r l m
 |_,_=>False
theorem ll.length:∀{l m:List AV},ll r l m->l.length=m.length
 |[],[],_=>rfl
 |_::_,_::_,h=>by simp[ll.length h.2]
 |[],_::_,h=>by cases h
 |_::_,[],h=>by cases h
theorem ll.I:∀{l m:List AV} {i:Nat} {x y:AV},ll r l m->l[i]? =some x->m[i]? =some y->aJ r x y
 |x::l,y::m,0,a,b,h,h1,h2=>by simp at h1 h2;subst h1;subst h2;exact h.1
 |x::l,y::m,i+1,a,b,h,h1,h2=>ll.I h.2 (by simpa using h1) (by simpa using h2)
 |[],[],_,_,_,_,h1,_=>by simp at h1
 |_::_,[],_,_,_,h,_,_=>by cases h
 |[],_::_,_,_,_,h,_,_=>by cases h
theorem ll.flat:∀{l:List AV},l.all AV.flat=true->ll r l l
  |[],_=>trivial
  | x::l,h=>by
    obtain⟨h1,h2⟩:=and_true.1 (show(x.flat&&l.all AV.flat)=true from h)
    exact⟨aJ.flat h1,ll.flat h2⟩
theorem c8.cells{l m:List AV}(hl:l.length<=top)(h:ll r l m)(h1:m.all AV.ct=true):c8 r (.cells l.length (Tr.fill l 0 .nil) []) (.cells m.length (Tr.fill m 0 .nil) []):=by
 have hlen:=h.length
 intro ρ N o k
 obtain⟨c,e,rfl,k1,k2,k3⟩:=k
 refine⟨c,e,rfl,k1,by omega,fun i hi=>?_⟩
 obtain⟨x,v,a1,a2,a3,a4⟩:=k3 i aF
 have hx:l[i]? =some x:=by
  unfold cellAt at a1
  rw[Tr.rH _ _ _ _ aF,if_pos aF,Nat.sub_zero,List.getElem?_eq_getElem aF] at a1
  rw[List.getElem?_eq_getElem aF]
  exact a1
 have hy:m[i]? =some m[i]:=List.getElem?_eq_getElem hi
 refine⟨m[i],v,?_,?_,a3,h.I hx hy ρ v a4⟩
 ·unfold cellAt
  rw[Tr.rH _ _ _ _ aF,if_pos aF,Nat.sub_zero,hy]
 ·exact List.all_eq_true.1 h1 _ (List.getElem_mem hi)
theorem c8.aD{α:Type}{enc:α->List AV}{l:List α}(he:∀x,(enc x).all AV.flat=true/\(enc x).all AV.ct=true)(hl:(l.map enc).flatten.length<=top):c8 r (aD enc l) (aD enc l):=by
 have hf:∀(p:AV->Bool),(∀x,(enc x).all p=true)->∀l:List α,(l.map enc).flatten.all p=true:=by
  intro p hp l
  induction l with
  |nil=>rfl
  |cons x l ih=>simp only[List.map_cons,List.flatten_cons,List.all_append,ih,hp x,Bool.and_true]
 exact c8.cells hl (ll.flat (hf _ (fun x=>(he x).1) l)) (hf _ (fun x=>(he x).2) l)
theorem jy.ints:∀{m:List (Int×Int)} {ρ σ:Ren} {l:List MapEntry} {i:Nat},jy ρ (im m) l i->jy σ (im m) l i
  |[],_,_,_,_,h=>h
  | _::_,_,_,_,_,h=>by
    obtain⟨e,es,a,b,c,d,f⟩:=h
    exact⟨e,es,a,b,c,d,jy.ints f⟩
theorem c8.eL(m:List (Int×Int)):c8 r (eL m) (eL m):=by
 intro ρ N o k
 obtain⟨l,h1,h2,h3⟩:=k
 exact⟨l,h1,h2,h3.ints⟩
variable {P:Program} {B:aZ} {Q:Tr AV->List Nat->Option Code->AS->Prop} {s:AS} {t:Tr AV} {nt:Nat}
end
end Go.Rn
namespace Go.Rn
end Go.Rn
namespace Go.Rn
open Go.RowKit
variable {ys xs:List AV} {ty yt:TypeId} {l:List (Int×Int)} {d:Nat} {y x:Operand} {b:Bool}
noncomputable section
def fieldsOf(P:Program)(ty:TypeId):List Field:=
 match P.underlying ty with
 |some (.struct fs)=>fs.toList
 |_=>[]
def yq(P:Program)(ty:TypeId):Bool:=
 match P.underlying ty with
 |some (.struct _)=>true
 |_=>false
def tG(P:Program)(xs ys:List AV):List Field->Option (List (Int×Int))
  |[]=>some []
  | f ::l=>match f.name == "_" with
    |true=>none
    | false=>match P.underlying f.type,j9 P f.type xs f.offset,j9 P f.type ys f.offset with
      | some (.int _),some (.int k a),some (.int k' b)=>match decide (k=k') with
        | true=>match tG P xs ys l with
          |some r=>some ((a,b)::r)
          |none=>none
        |false=>none
      |_,_,_=>none
def allEq(l:List (Int×Int)):Bool:=l.all fun p=>p.1 == p.2
end
section
variable {P:Program} {s s1:AS} {call:bf} {t:Tr AV}
theorem Vg{k i:IntKind}{a b:Int}(hu:P.underlying ty=some (.int i)):jz P (d+1) ty (.int k a) (.int k b)=some (a == b):=by
 unfold jz
 rw[hu]
 simp only[decide_true]
theorem Jo:∀{fs:List Field} {l:List (Int×Int)},tG P xs ys fs=some l->eqFields P (jz P (d+1)) xs ys fs=some (allEq l)
  |[],l,h=>by cases h;rfl
  | f ::fs,l,h=>by
    unfold tG at h
    split at h
    · cases h
    · rename_i hn
      split at h
      · rename_i i k a k' b hu hx hy
        split at h
        · rename_i hk
          have rf:k=k':=of_decide_eq_true hk
          subst rf
          split at h
          · rename_i r hr
            cases h
            unfold eqFields
            simp only[hn,hx,hy,Vg hu]
            cases q:a == b with
            |false=>simp only[allEq,List.all_cons,q,Bool.false_and]
            |true=>simp only[allEq,List.all_cons,q,Bool.true_and];exact Jo hr
          · cases h
        · cases h
      · cases h
theorem L4(hu:yq P ty=true)(hs:P.stoodInHeld ty=false)(h:tG P xs ys (fieldsOf P ty)=some l):jz P (d+2) ty (.agg xs) (.agg ys)=some (allEq l):=by
 unfold yq at hu
 split at hu
 ·rename_i fs e
  unfold fieldsOf at h
  rw[e] at h
  unfold jz
  rw[e]
  simp only[hs]
  exact Jo h
 ·cases hu
theorem Vh(hx:aR t x=some (.agg xs))(hy:aR t y=some (.agg ys))(hg:tC P .neq ty x y (.agg xs) (.agg ys)=true)(hu:yq P ty=true)(hs:P.stoodInHeld ty=false)(h:tG P xs ys (fieldsOf P ty)=some l)(hb:allEq l=b):
  (cW P (.binOp .neq ty x y yt)).val call t s= .ok (.bool (!b)) s:=by
 show kK P .neq ty x y call t s=_
 unfold kK
 rw[hx,hy,dk,dk,hg,fG]
 have:mI P .neq ty (.agg xs) (.agg ys)=some (.bool (!b)):=by
  unfold mI
  simp only
  have e:=L4 (d:=Op.maxDepth - 2) hu hs h
  rw[show Op.maxDepth - 2+2=Op.maxDepth from rfl] at e
  rw[e,hb]
 rw[this]
 rfl
theorem Vi(hx:aR t x=some (.agg xs))(hy:aR t y=some (.agg ys))(hg:tC P .eql ty x y (.agg xs) (.agg ys)=true)(hu:yq P ty=true)(hs:P.stoodInHeld ty=false)(h:tG P xs ys (fieldsOf P ty)=some l)(hb:allEq l=b):
  (cW P (.binOp .eql ty x y yt)).val call t s= .ok (.bool b) s:=by
 show kK P .eql ty x y call t s=_
 unfold kK
 rw[hx,hy,dk,dk,hg,fG]
 have:mI P .eql ty (.agg xs) (.agg ys)=some (.bool b):=by
  unfold mI
  simp only
  have e:=L4 (d:=Op.maxDepth - 2) hu hs h
  rw[show Op.maxDepth - 2+2=Op.maxDepth from rfl] at e
  rw[e,hb]
 rw[this]
 rfl
end
end Go.Rn
namespace Go.Rn
open Go.RowKit
noncomputable section
def Fin(P:Program)(rs:List ResultVar)(R:AV->AS->Prop):Tr AV->List Nat->Option Code->AS->Prop:=
 fun t d j s=>∃x s3,finish P rs ⟨0,t,0,[],d,none⟩ j s= .ok x s3/\R x s3
end
section
variable {P:Program} {B:aZ} {ρ:Ren} {w:World} {s s1:AS} {call:bf}
theorem Bb(rs:List ResultVar)(fr:AF)(j:Option Code):finish P rs fr j=finish P rs ⟨0,fr.tmps,0,[],fr.defers,none⟩ j:=rfl
theorem cM.calls(hP:fa P){g:FuncId}{fn:Func}{body:Code}{args:List AV}{vs:Array Value}{R:AV->AS->Prop}(ga:P.funcs[g]? =some fn)(gP:fn.body=some body)(mW:max fn.ntmps args.length<=top)(H:cM P B s.nx (Fin P fn.results.toList R) ⟨g,iD args,max fn.ntmps args.length,[.code body],[],none⟩ s)(fi:bY s)(r:Rel B ρ s.h w)(hg:iJ ρ)(hf:∀k,s.nx<=k->k<top->ρ k=none)(hv:aQ ρ args vs.toList):
    Calls P g vs w fun e w'=>∃v x s3,e= .returned v/\R x s3/\s.nx<=s3.nx/\bY s3/\lN B ρ s s3 w x v w':=by
  intro cs
  let b:Frame:={(default:Frame) with fn:=g,kind:=.normal,roundOf:=none}
  let a:Act:={tmps:=vs++Array.replicate (fn.ntmps - vs.size) undef,defers:=[]}
  have yT:Frame.enter P g vs .normal=b.atR a [.code body]:=by simp[Frame.enter,Frame.atR,ga,gP,b,a]
  have cL:Fr ρ ⟨g,iD args,max fn.ntmps args.length,[.code body],[],none⟩ b a:=⟨rfl,rfl,trivial,rfl,.cons (hP.code g fn body ga gP) .nil⟩
  have aW:At B ρ s (max fn.ntmps args.length) (iD args) w a:=⟨JD hv _ mW,r,hg,mW,fi⟩
  obtain⟨fr,j,s2,σ,a',w',⟨x,s3,nP,hR⟩,en,e0,e0h,e1,e2,e3,e4,e5,e6,e7,e8⟩:=H ρ w b a cs cL aW hf
  have YV:finish P fn.results.toList fr j s2= .ok x s3:=by rw[Bb];exact nP
  have px:bY s2:=e2.dD
  have aas:Ext s.nx s2.nx ρ σ:=by
    refine⟨fun k y hk=>?_,fun k iy hk=>?_⟩
    · by_cases qt:k<top
      · by_cases q:s.nx<=k
        · rw[hf k q qt] at hk;cases hk
        · rw[e0 k aF qt];exact hk
      · exact e0h k y aF hk
    · by_cases q:k<s.nx
      · exact e0 k q iy
      · rw[e1 k aF iy,hf k aF iy]
  obtain⟨hj,u2,s4,rs,h7,h9,hx⟩:=Ka YV
  have n8:bY s4:=(Local.oL _).dD px h7
  have sQ:Leaves j fr.todo:=e7
  obtain⟨d1,d2,w2,d3,d4,d5⟩:=D9 (P:=P) (fr:=b) (cs:=cs) px e2.rel e3 h7
  obtain⟨f1,f2,us,f3,f4⟩:=D3 (P:=P) (w:=w2) e2.tr n8 d3 h9
  have my:bY s3:=(Local.pG P fr.tmps _).dD n8 h9
  have G0:Steps P (lone (b.atR a' fr.todo) cs w') (lone {b.atR a' fr.todo with mode:=.returning} cs w'):=by
    rcases hj with rfl|rfl
    · have e:fr.todo=[]:=sQ
      rw[e];exact .one (stepR_end rfl)
    · obtain⟨k,e⟩:=sQ
      rw[e];exact .one (stepR_ret rfl)
  have ub:=d5 {b.atR a' fr.todo with mode:=.returning} cs jQ rfl
  have sq:(results fn a'.tmps).run P w2= .ok (oY us) w2:=by
    unfold results
    rw[Array.mapM_eq_mapM_toList]
    simp only[Sem.run_bind,map_eq_pure_bind,Sem.run_pure]
    refine Eq.trans (congrArg (fun r:Result (List Value)=>(r.andThen fun a w'=>Result.ok a.toArray w').andThen fun a w'=>Result.ok (if h:a.size=1 then a[0] else Value.tuple a) w') f3) ?_
    have:∀l:List Value,(Result.ok (if h:l.toArray.size=1 then l.toArray[0] else Value.tuple l.toArray) w2:Result Value)= .ok (oY l) w2:=by
      intro l
      match l with
      |[]=>rfl
      |[v]=>rfl
      |v::v2::l=>simp[oY]
    exact this us
  have P9:s3.nx=s2.nx:=by rw[f2,d1]
  have hle:s.nx<=s3.nx:=by rw[P9];exact en
  refine⟨.returned (oY us),w2,{b.atR a' fr.todo with mode:=.returning,defers:=[]},⟨_,x,s3,rfl,hR,hle,my,?_⟩,?_,rfl,?_⟩
  · exact⟨σ,by rw[P9];exact aas,by rw[hx];exact KK f4,by rw[f1];exact d3,e4.trans d4⟩
  · rw[yT]
    exact Steps.trans e8 (Steps.trans G0 ub)
  · exact⟨rfl,rfl,rfl,fn,ga,sq⟩
theorem re.nil(ρ:Ren)(b:Nat):re ρ .nil b:=by
 intro q o N _ h
 rw[Tr.get_nil] at h;cases h
end
end Go.Rn
namespace Go.Rn
variable {P:Program} {call:bf} {nt:Nat} {ops:Array Oper} {t t1:Tr AV}
theorem JE{P:Program}{w:World}{f:FuncId}{fn:Func}{body:Code}{vs:Array Value}(ga:P.funcs[f]? =some fn)(gP:fn.body=some body)(ir:(fn.name == "runtime.NumGoroutine")=false):(callFunc f vs).run P w= .ok (.enter f vs) w:=by
 have y6:(program).run P w= .ok P w:=rfl
 have hn:fn.name≠ "runtime.NumGoroutine" :=by simpa using ir
 simp only[callFunc,Sem.run_bind,y6,Result.andThen_ok,ga,ir,gP]
 simp
theorem vP{K:Nat}:∀{l:List (List AV)},(∀c∈l,c.length=K)->l.flatten.length=l.length*K
  |[],_=>by simp
  | c::l,h=>by
    rw[List.flatten_cons,List.length_append,h c List.mem_cons_self,vP (fun c' h'=>h c' (List.mem_cons_of_mem _ h')),List.length_cons,Nat.add_mul,Nat.one_mul]
    omega
theorem WB{s:AS}{ty yt:TypeId}{x y:Operand}{k:IntKind}{a b c:Int}(hx:aR t x=some (.int k a))(hy:aR t y=some (.int k b))(h0:b≠0)(h:a.tmod b=c):(cW P (.binOp .rem ty x y yt)).val call t s= .ok (.int k c) s:=
 Ve hx hy rfl rfl (by subst h;simp only[sb,decide_eq_false h0])
end Go.Rn
namespace Go.Rn
open Go.RowKit
section
variable {P:Program} {call:bf} {nt:Nat} {ops:Array Oper} {t t1:Tr AV}
end
noncomputable section
end
end Go.Rn
namespace Go.Rn
open Go.RowKit
variable {α:Type} {t1:Tr AV} {g:Option (Nat×Bool)} {v:AV} {d:Option Tmp} {n id:Nat} {fn:Func} {c:Code}
noncomputable section
def Oy [Inhabited α]:R α->α
 | .ok t _=>t
 | .bad=>default
def Oz:R α->AS
 | .ok _ s=>s
 | .bad=>⟨.nil,0,0,[],[]⟩
def isOk:R α->Bool
 | .ok _ _=>true
 | .bad=>false
instance:Inhabited (Tr AV):=⟨.nil⟩
def Chunk(P:Program)(call:bf)(G:AF->AS->Prop):Prop:=∀(k:Nat) (fr br:AF) (s s1:AS),cY P call k fr s= .ok (.go br) s1->G br s1->G fr s
def Ev(P:Program)(call:bf)(R:AF->Option Code->AS->Prop)(fr:AF)(s:AS):Prop:=∃k br j s1,cY P call k fr s= .ok (.leave br j) s1/\R br j s1
def uj(P:Program)(B:aZ)(aI:Nat)(Q:Tr AV->List Nat->Option Code->AS->Prop)(fr:AF)(s:AS):Prop:=aI<=s.nx->cM P B aI Q fr s
def gi(P:Program)(call:bf)(G:AF->AS->Prop)(f nt:Nat)(K:List Item)(ops:Array Oper)(i:Nat)(t:Tr AV)(s:AS):Prop:=
 ∃t1 s1,jg P call nt ops i (ops.size - i) t s= .ok t1 s1/\G ⟨f,t1,nt,K,[],none⟩ s1
def gS(P:Program)(call:bf)(G:AF->AS->Prop)(f nt:Nat)(K:List Item)(ops:Array Oper)(acc:List cT)(i:Nat)(t:Tr AV)(s:AS):Prop:=
 ∃t1 ms s1,lO P call nt ops i (ops.size - i) t s= .ok (t1,ms) s1/\mO (Region.before ops) (acc++ms) (acc++ms)=true/\G ⟨f,t1,nt,K,[],none⟩ s1
def kM:Tr AV->List (Nat×AV)->Tr AV
 |t,[]=>t
 |t,p::l=>kM (t.put p.1 (some p.2)) l
def pd:Tr aE->List (Nat×Option aE)->Tr aE
 |t,[]=>t
 |t,p::l=>pd (t.put p.1 p.2) l
def ss(s:AS)(L:List (Nat×Option aE))(ep:Nat)(rd wr:List Nat):AS:=⟨pd s.h L,ep,s.mark,rd++s.rd,wr++s.wr⟩
def BU(s:AS):AS:=⟨s.h,s.nx,s.nx,[],[]⟩
def qQ(s s1:AS):AS:=⟨s1.h,s1.nx,s.mark,below s.mark s1.rd++s.rd,below s.mark s1.wr++s.wr⟩
def zx(i:Nat)(s s1:AS):cT:=⟨i,below s.nx s1.rd,below s.nx s1.wr,s.nx,s1.nx⟩
end
section
variable {P:Program} {B:aZ} {aI:Nat} {Q:Tr AV->List Nat->Option Code->AS->Prop} {s s1:AS} {call:bf} {t:Tr AV} {ops:Array Oper} {f nt i:Nat} {K:List Item} {G:AF->AS->Prop} {acc:List cT}
theorem Vj [Inhabited α]{r:R α}(h:isOk r=true):r= .ok (Oy r) (Oz r):=by
 cases r with
 |bad=>cases h
 |ok a s=>rfl
theorem Chunk.Aq(fq:P.follows .mixedOrders=true)(hc:hJ P B call)(hl:∀t a,Local (call t a)):Chunk P call (uj P B aI Q):=by
 intro k fr br s s1 h H h0 ρ w b a cs cL aW hf
 have le:=(Local.cY P hl k fr).le aW.dD h
 exact cM.chunk fq hc hl h h0 (H (Nat.le_trans h0 le)) ρ w b a cs cL aW hf
theorem KQ:∀{k m:Nat} {fr br:AF} {s s1:AS},cY P call k fr s= .ok (.go br) s1->cY P call (k+m) fr s=cY P call m br s1
  |0,m,fr,br,s,s1,h=>by cases h;rw[Nat.zero_add]
  | k +1,m,fr,br,s,s1,h=>by
    obtain⟨y,s2,h1,h2⟩:=M.bG (show((kH P call fr).bind fun x=> @cr.rec (fun _=>M cr) (cY P call k) (fun fr j=>M.pure (.leave fr j)) x) s= .ok _ s1 from h)
    cases y with
    | go ja=>
      rw[show k+1+m=(k+m)+1 by omega,wj h1]
      exact KQ h2
    |leave ja j'=>cases h2
theorem Chunk.ev{R:AF->Option Code->AS->Prop}:Chunk P call (Ev P call R):=by
 intro k fr br s s1 h ⟨m,rl,j,s2,h1,h2⟩
 exact⟨k+m,rl,j,s2,by rw[KQ h];exact h1,h2⟩
theorem Chunk.sO(hG:Chunk P call G)(wU:c= .region id (opsOf c) false)(H:gi P call G f nt K (opsOf c) 0 t s):G ⟨f,t,nt,.code c::K,[],none⟩ s:=by
 obtain⟨t1,s1,h,H⟩:=H
 refine hG 1 _ _ _ s1 (wj ?_) H
 have ht:((opsOf c).toList.drop 0).take ((opsOf c).size - 0)=(opsOf c).toList:=by rw[List.drop_zero,Nat.sub_zero, ←Array.length_toList,List.take_length]
 unfold jg at h
 rw[ht] at h
 rw[wU]
 show((iV P call nt (opsOf c) (opsOf c).toList t).bind fun t=>M.pure (cr.go ⟨f,t,nt,K,[],none⟩)) s=_
 rw[M.dA h]
 rfl
theorem Chunk.aat(hG:Chunk P call G)(wU:c= .region id (opsOf c) true)(H:gS P call G f nt K (opsOf c) [] 0 t s):G ⟨f,t,nt,.code c::K,[],none⟩ s:=by
 obtain⟨t1,ms,s1,h,hm,H⟩:=H
 rw[List.nil_append] at hm
 refine hG 1 _ _ _ s1 (wj ?_) H
 have ht:((opsOf c).toList.drop 0).take ((opsOf c).size - 0)=(opsOf c).toList:=by rw[List.drop_zero,Nat.sub_zero, ←Array.length_toList,List.take_length]
 unfold lO at h
 rw[ht] at h
 rw[wU]
 show((oK P call nt (opsOf c) t).bind fun t=>M.pure (cr.go ⟨f,t,nt,K,[],none⟩)) s=_
 have:oK P call nt (opsOf c) t s= .ok t1 s1:=by
  unfold oK
  rw[M.dA h]
  show bC (mO (Region.before (opsOf c)) ms ms) (M.pure t1) s1=_
  rw[hm,fG]
  rfl
 rw[M.dA this]
 rfl
theorem gi.done(h:Nat.ble ops.size i=true)(H:G ⟨f,t,nt,K,[],none⟩ s):gi P call G f nt K ops i t s:=by
 refine⟨t,s,?_,H⟩
 rw[show ops.size - i=0 by have:=bH.1 h;omega]
 unfold jg
 rw[List.take_zero]
 rfl
theorem gS.done(h:(Nat.ble ops.size i&&mO (Region.before ops) acc acc)=true)(H:G ⟨f,t,nt,K,[],none⟩ s):gS P call G f nt K ops acc i t s:=by
 obtain⟨h1,h2⟩:=and_true.1 h
 refine⟨t,[],s,?_,by rw[List.append_nil];exact h2,H⟩
 rw[show ops.size - i=0 by have:=bH.1 h1;omega]
 unfold lO
 rw[List.take_zero]
 rfl
theorem gi.many(n:Nat)(h:(Nat.ble (i+n) ops.size&&isOk (jg P call nt ops i n t s))=true)(H:gi P call G f nt K ops (i+n) (Oy (jg P call nt ops i n t s)) (Oz (jg P call nt ops i n t s))):gi P call G f nt K ops i t s:=by
 obtain⟨hn,aT⟩:=and_true.1 h
 obtain⟨t1,s1,h1,h2⟩:=H
 have hle:=bH.1 hn
 refine⟨t1,s1,?_,h2⟩
 rw[show ops.size - i=n+(ops.size - (i+n)) by omega]
 exact yd (Vj aT) h1
theorem gi.Gq(n:Nat)(l:List (Nat×AV))(L:List (Nat×Option aE))(ep:Nat)(rd wr:List Nat)(h:(Nat.ble (i+n) ops.size,jg P call nt ops i n t s)=(true,.ok (kM t l) (ss s L ep rd wr)))(H:gi P call G f nt K ops (i+n) (kM t l) (ss s L ep rd wr)):gi P call G f nt K ops i t s:=by
 injection h with hn aT
 obtain⟨t1,s1,h1,h2⟩:=H
 have hle:=bH.1 hn
 refine⟨t1,s1,?_,h2⟩
 rw[show ops.size - i=n+(ops.size - (i+n)) by omega]
 exact yd aT h1
theorem gi.Gr(n:Nat)(l:List (Nat×AV))(h:(Nat.ble (i+n) ops.size,jg P call nt ops i n t s)=(true,.ok (kM t l) s))(H:gi P call G f nt K ops (i+n) (kM t l) s):gi P call G f nt K ops i t s:=by
 injection h with hn aT
 obtain⟨t1,s1,h1,h2⟩:=H
 have hle:=bH.1 hn
 refine⟨t1,s1,?_,h2⟩
 rw[show ops.size - i=n+(ops.size - (i+n)) by omega]
 exact yd aT h1
theorem gS.Gq(n:Nat)(l:List (Nat×AV))(L:List (Nat×Option aE))(ep:Nat)(rd wr:List Nat)(ms:List cT)(h:(Nat.ble (i+n) ops.size,lO P call nt ops i n t s)=(true,.ok (kM t l,ms) (ss s L ep rd wr)))(H:gS P call G f nt K ops (acc++ms) (i+n) (kM t l) (ss s L ep rd wr)):gS P call G f nt K ops acc i t s:=by
 injection h with hn aT
 obtain⟨t1,Qa,s1,h1,h2,h3⟩:=H
 have hle:=bH.1 hn
 refine⟨t1,_,s1,?_,by rw[←List.append_assoc];exact h2,h3⟩
 rw[show ops.size - i=n+(ops.size - (i+n)) by omega]
 exact Bo rfl aF aT h1
theorem gS.Gr(n:Nat)(l:List (Nat×AV))(ms:List cT)(h:(Nat.ble (i+n) ops.size,lO P call nt ops i n t s)=(true,.ok (kM t l,ms) s))(H:gS P call G f nt K ops (acc++ms) (i+n) (kM t l) s):gS P call G f nt K ops acc i t s:=by
 injection h with hn aT
 obtain⟨t1,Qa,s1,h1,h2,h3⟩:=H
 have hle:=bH.1 hn
 refine⟨t1,_,s1,?_,by rw[←List.append_assoc];exact h2,h3⟩
 rw[show ops.size - i=n+(ops.size - (i+n)) by omega]
 exact Bo rfl aF aT h1
theorem gi.step(hn:Nat.blt i ops.size=true)(h:jg P call nt ops i 1 t s= .ok t1 s1)(H:gi P call G f nt K ops (i+1) t1 s1):gi P call G f nt K ops i t s:=by
 obtain⟨t2,s2,h1,h2⟩:=H
 have cQ:=(blt_eq _ _).mp hn
 refine⟨t2,s2,?_,h2⟩
 rw[show ops.size - i=1+(ops.size - (i+1)) by omega]
 exact yd h h1
theorem gS.step{ms:List cT}(hn:Nat.blt i ops.size=true)(h:lO P call nt ops i 1 t s= .ok (t1,ms) s1)(H:gS P call G f nt K ops (acc++ms) (i+1) t1 s1):gS P call G f nt K ops acc i t s:=by
 obtain⟨t2,Qa,s2,h1,h2,h3⟩:=H
 have cQ:=(blt_eq _ _).mp hn
 refine⟨t2,_,s2,?_,by rw[←List.append_assoc];exact h2,h3⟩
 rw[show ops.size - i=1+(ops.size - (i+1)) by omega]
 exact Bo rfl aF h h1
theorem FA{op:Op}(h:p6 ops i=some (op,d,g)):Nat.blt i ops.size=true:=by
 obtain⟨o,e,_⟩:=Bn h
 rw[blt_eq]
 exact(Array.getElem?_eq_some_iff.1 e).1
noncomputable def y8(ops:Array Oper)(g:Option (Nat×Bool))(t:Tr AV):Bool:=
 match g with
 |none=>true
 |some g=>nH ops t g.1&&lZ ops g t
theorem rZ{op:Op}(ho:p6 ops i=some (op,d,g))(hw:y8 ops g t=true)(h:(cW P op).val call t s= .ok v s1)(hp:gW nt t d v=some t1):jg P call nt ops i 1 t s= .ok t1 s1:=by
  cases g with
  |none=>exact op1 ho h hp
  | some g=>
    obtain⟨h1,h2⟩:=and_true.1 (show(nH ops t g.1&&lZ ops g t)=true from hw)
    exact aar ho h1 h2 h hp
theorem Vk{op:Op}(ho:p6 ops i=some (op,d,g))(hw:y8 ops g t=true)(h:(cW P op).val call t (BU s)= .ok v s1)(hp:gW nt t d v=some t1):lO P call nt ops i 1 t s= .ok (t1,[zx i s s1]) (qQ s s1):=by
  obtain⟨o,e,rfl,rfl,e3⟩:=Bn ho
  unfold lO
  have hl:(ops.toList.drop i).take 1=[o]:=by
    have h1:ops.toList[i]? =some o:=by rw[Array.getElem?_toList];exact e
    obtain⟨hi,e⟩:=List.getElem?_eq_some_iff.1 h1
    rw[List.drop_eq_getElem_cons hi,e];rfl
  rw[hl]
  have ha:fL P call nt ops o t (BU s)= .ok t1 s1:=by
    unfold fL tZ
    rw[e3]
    cases g with
    | none=>
      show nZ (cW P o.op) o.dst call nt t _=_
      unfold nZ
      rw[M.dA h,hp]
      rfl
    | some g=>
      obtain⟨h1,h2⟩:=and_true.1 (show(nH ops t g.1&&lZ ops g t)=true from hw)
      show o6 ops g (cW P o.op) o.dst call nt t _=_
      unfold o6
      rw[h1,h2,fG]
      show((cW P o.op).val call t).bind (fun v=>lift (gW nt t o.dst v)) _=_
      rw[M.dA h,hp]
      rfl
  have hal:alone i (fL P call nt ops o t) s= .ok (t1,zx i s s1) (qQ s s1):=by
    obtain⟨hh,nx,mark,rd,wr⟩:=s
    obtain⟨gX,ep,Gl,fY,ly⟩:=s1
    unfold alone
    simp only[rI]
    show(@R.rec _ (fun _=>R (Tr AV×cT)) .bad (fun a s1=>_) (fL P call nt ops o t (BU ⟨hh,nx,mark,rd,wr⟩)))=_
    rw[ha]
    rfl
  show((alone i (fL P call nt ops o t)).bind fun x=>(kG P call nt ops [] (i+1) x.1).bind fun y=>M.pure (y.1,x.2::y.2)) s=_
  rw[M.dA hal]
  rfl
theorem gi.op{op:Op}{d:Tmp}(h0:(p6 ops i,y8 ops g t,Nat.blt d nt)=(some (op,some d,g),true,true))(h:(cW P op).val call t s= .ok v s1)(H:gi P call G f nt K ops (i+1) (t.put d (some v)) s1):gi P call G f nt K ops i t s:=by
 injection h0 with ho h0
 injection h0 with hw hd
 exact gi.step (FA ho) (rZ ho hw h (by unfold gW;simp only[hd])) H
def G1:BinOp->Int->Int->Option Bool
 | .lss,a,b=>some (decide (a<b))
 | .leq,a,b=>some (decide (a<=b))
 | .gtr,a,b=>some (decide (a>b))
 | .geq,a,b=>some (decide (a>=b))
 | .eql,a,b=>some (a == b)
 | .neq,a,b=>some (!(a == b))
 |_,_,_=>none
theorem WD{op:BinOp}{ty yt:TypeId}{x y:Operand}{k:IntKind}{a b:Int}{r:Bool}(hx:aR t x=some (.int k a))(hy:aR t y=some (.int k b))(h:G1 op a b=some r):(cW P (.binOp op ty x y yt)).val call t s= .ok (.bool r) s:=by
 cases op<;>simp only[G1,Option.some.injEq,reduceCtorEq] at h<;>exact Vd hx hy rfl rfl (by subst h;rfl)
theorem TH{sp:Sp}{F:Nat->Option (List AV)}{g:Nat}{body:Code}{fo:Operand}{args:Array Operand}{ts:Array TypeId}{vs:List AV}{br:AF}{j:Option Code}{x:AV}{s2:AS}{k:Nat}(h0:(aR t fo,iv (aR t) args.toList)=(some (.func (.func g) [] []),some vs))(u7:sp g=none)(ga:P.funcs[g]? =some fn)(gP:fn.body=some body)(ir:(fn.name == "runtime.NumGoroutine")=false)(mW:Nat.ble (max fn.ntmps vs.length) top=true)(h1:cY P (bV P sp F n) k ⟨g,iD vs,max fn.ntmps vs.length,[.code body],[],none⟩ s= .ok (.leave br j) s1)(h2:finish P fn.results.toList br j s1= .ok x s2):(cW P (.call ⟨.value fo,args,ts⟩)).val (bV P sp F (n+1)) t s= .ok x s2:=by
 injection h0 with hf ha
 show mN fo args.toList (bV P sp F (n+1)) t s=_
 unfold mN
 rw[ha,dk,hf,dk]
 show bV P sp F (n+1) (.fn g) ([]++vs++[]) s=_
 rw[List.nil_append,List.append_nil]
 show kV P sp g (bV P sp F n) vs s=_
 rw[E5 u7 ga gP ir]
 unfold pN
 rw[mW,fG,M.dA (A9 h1)]
 exact h2
theorem uj.start(h:Nat.ble aI s.nx=true){fr:AF}(H:uj P B aI Q fr s):cM P B aI Q fr s:=H (bH.1 h)
theorem fQ{g:FuncId}(h:P.funcs[g]? =some fn)(hb:fn.body.isSome=true):fn.body=some (aO P g []):=by
 unfold aO M3
 rw[h]
 simp only[oR]
 cases e:fn.body with
 |none=>rw[e] at hb;cases hb
 |some c=>rfl
theorem B8{l:List α}(h:n<l.length):∃x,l[n]? =some x:=⟨l[n]'h,List.getElem?_eq_getElem h⟩
end
end Go.Rn
namespace Go.Rn
open Go.RowKit
variable {α:Type} {K i n j:Nat} {l:List α} {enc:α->List AV} {c x c':α}
theorem KR(u v:Option α):∀(p q:List Bool) (t:Tr α),p≠q->Tr.jM u p (Tr.jM v q t)=Tr.jM v q (Tr.jM u p t)
  |[],[],_,h=>absurd rfl h
  | [],b::q,t,_=>by
    cases t with
    |nil=>cases b<;>rfl
    |node l x r=>cases b<;>rfl
  | a::p,[],t,_=>by
    cases t with
    |nil=>cases a<;>rfl
    |node l x r=>cases a<;>rfl
  | a::p,b::q,t,h=>by
    have ih:∀t:Tr α,a=b->Tr.jM u p (Tr.jM v q t)=Tr.jM v q (Tr.jM u p t):=fun t e=>KR u v p q t (fun e2=>h (by rw[e,e2]))
    cases t with
    |nil=>cases a<;>cases b<;>simp[Tr.EW,Tr.yg,ih]
    |node l x r=>cases a<;>cases b<;>simp[Tr.yg,ih]
theorem EL(u v:Option α):∀(p:List Bool) (t:Tr α),Tr.jM u p (Tr.jM v p t)=Tr.jM u p t
  |[],t=>by cases t<;>rfl
  | a::p,t=>by
    cases t with
    |nil=>cases a<;>simp[Tr.EW,Tr.yg,EL u v p]
    |node l x r=>cases a<;>simp[Tr.yg,EL u v p]
theorem put_comm(t:Tr α)(n m:Nat)(u v:Option α)(hn:n<top)(h:n≠m):(t.put m v).put n u=(t.put n u).put m v:=
 KR u v _ _ t (fun e=>LL hn (fun e2=>h e2.symm) e.symm)
theorem TI(t:Tr α)(n:Nat)(u v:Option α):(t.put n v).put n u=t.put n u:=EL u v _ t
theorem Lm:∀(l:List α) (i:Nat) (t:Tr α) (n:Nat),n<i->n<top->(Tr.fill l i t).put n (some x)=Tr.fill l i (t.put n (some x))
  |[],_,_,_,_,_=>rfl
  | y::l,i,t,n,h,hn=>by
    show(Tr.fill l (i+1) (t.put i (some y))).put n (some x)=Tr.fill l (i+1) ((t.put n (some x)).put i (some y))
    rw[Lm l (i+1) _ n aF hn,put_comm t n i _ _ hn aF]
theorem KS:∀(l:List α) (i k:Nat) (t:Tr α),k<l.length->i+k<top->(Tr.fill l i t).put (i+k) (some x)=Tr.fill (l.set k x) i t
  |[],_,_,_,h,_=>by simp at h
  | y::l,i,0,t,_,h=>by
    show(Tr.fill l (i+1) (t.put i (some y))).put i (some x)=Tr.fill l (i+1) (t.put i (some x))
    rw[Lm l (i+1) _ i aF h,TI]
  | y::l,i,k+1,t,h,ht=>by
    show(Tr.fill l (i+1) (t.put i (some y))).put (i+(k+1)) (some x)=Tr.fill (l.set k x) (i+1) (t.put i (some y))
    rw[show i+(k+1)=i+1+k by omega]
    exact KS l (i+1) k _ (by simpa using h) aF
def qW:List α->Nat->List α->List α
 |l,_,[]=>l
 |l,k,x::r=>qW (l.set k x) (k+1) r
theorem KT:∀(r l:List α) (k:Nat),k+r.length<=l.length->l.length<=top->Tr.fill r k (Tr.fill l 0 .nil)=Tr.fill (qW l k r) 0 .nil
  |[],_,_,_,_=>rfl
  | x::r,l,k,h,ht=>by
    simp only[List.length_cons] at h
    show Tr.fill r (k+1) ((Tr.fill l 0 .nil).put k (some x))=Tr.fill (qW (l.set k x) (k+1) r) 0 .nil
    have:=KS (x:=x) l 0 k .nil aF aF
    rw[Nat.zero_add] at this
    rw[this]
    exact KT r (l.set k x) (k+1) (by rw[List.length_set];omega) (by rw[List.length_set];exact ht)
theorem FB:∀(r l:List α) (k i:Nat),k+r.length<=l.length->(qW l k r)[i]? =if k<=i/\i<k+r.length then r[i - k]? else l[i]?
  | [],l,k,i,_=>by
    show l[i]? =_
    simp;intro h1 h2;omega
  | x ::r,l,k,i,h=>by
    simp only[List.length_cons] at h ⊢
    show(qW (l.set k x) (k+1) r)[i]? =_
    rw[FB r (l.set k x) (k+1) i (by rw[List.length_set];omega)]
    by_cases e:i=k
    · subst e
      rw[if_neg aF,if_pos aF,Nat.sub_self,List.getElem?_set]
      simp;omega
    · by_cases q:k+1<=i/\i<k+1+r.length
      · rw[if_pos q,if_pos aF]
        obtain⟨j,rfl⟩:∃j,i=k+1+j:=⟨i - (k+1),by omega⟩
        rw[show k+1+j - (k+1)=j by omega,show k+1+j - k=j+1 by omega]
        simp
      · rw[if_neg q,if_neg aF,List.getElem?_set_ne aF]
theorem BE{β:Type}:∀{L:List (List β)} {i j:Nat},(∀c∈L,c.length=K)->i<L.length->j<K->∀{c:List β},L[i]? =some c->L.flatten[i*K+j]? =c[j]?
  |[],_,_,_,h,_,_,_=>by simp at h
  | x::L,0,j,hL,_,hj,c,hc=>by
    simp at hc;subst hc
    have hx:=hL x List.mem_cons_self
    rw[List.flatten_cons,Nat.zero_mul,Nat.zero_add,List.getElem?_append_left aF]
  | x::L,i+1,j,hL,hi,hj,c,hc=>by
    have hx:=hL x List.mem_cons_self
    rw[List.flatten_cons,List.getElem?_append_right (by rw[hx,Nat.add_mul];omega),hx,show(i+1)*K+j - K=i*K+j by rw[Nat.add_mul];omega]
    exact BE (fun c hc=>hL c (List.mem_cons_of_mem _ hc)) (by simpa using hi) hj (by simpa using hc)
theorem TJ(he:∀x,(enc x).length=K){r:List AV}(hc:l[i]? =some c)(hr:enc c'=qW (enc c) j r)(hj:j+r.length<=K):qW (l.map enc).flatten (i*K+j) r=((l.set i c').map enc).flatten:=by
  have hi:=(List.getElem?_eq_some_iff.1 hc).1
  have eF:∀(l:List α),∀c∈l.map enc,c.length=K:=fun l c hc=>by obtain⟨x,_,rfl⟩:=List.mem_map.1 hc;exact he x
  have nh:∀l:List α,(l.map enc).flatten.length=l.length*K:=fun l=>by rw[vP (eF l),List.length_map]
  have hmul:i*K+K<=l.length*K:=by have:=Nat.mul_le_mul_right K hi;rw[Nat.succ_mul] at this;exact this
  apply List.ext_getElem?
  intro m
  rw[FB _ _ _ _ (by rw[nh];omega)]
  by_cases hm:m<l.length*K
  · have hK:0<K:=by
      cases K with
      |zero=>simp at hm
      |succ k=>omega
    have hq:m / K<l.length:=by rw[Nat.div_lt_iff_lt_mul hK];exact hm
    have Dw:m=m / K*K+m % K:=by rw[Nat.mul_comm];exact(Nat.div_add_mod m K).symm
    have CH:m % K<K:=Nat.mod_lt _ hK
    have hold:(l.map enc).flatten[m]? =(enc (l[m / K]'hq))[m % K]? :=by
      conv=>lhs;rw[Dw]
      exact BE (eF l) (by rw[List.length_map];exact hq) CH (by rw[List.getElem?_map,List.getElem?_eq_getElem hq];rfl)
    have gy:m / K<(l.set i c').length:=by rw[List.length_set];exact hq
    have zy:((l.set i c').map enc).flatten[m]? =(enc ((l.set i c')[m / K]'gy))[m % K]? :=by
      conv=>lhs;rw[Dw]
      exact BE (eF _) (by rw[List.length_map];exact gy) CH (by rw[List.getElem?_map,List.getElem?_eq_getElem gy];rfl)
    rw[zy,hold]
    by_cases e:m / K=i
    · have hci:l[m / K]'hq=c:=by
        have:l[m / K]? =some c:=by rw[e];exact hc
        rw[List.getElem?_eq_getElem hq] at this;injection this
      have u9:(l.set i c')[m / K]'gy=c':=by simp[e]
      rw[u9,hci,hr,FB _ _ _ _ (by rw[he];exact hj)]
      have aez:m=i*K+m % K:=by rw[e] at Dw;exact Dw
      by_cases q:j<=m % K/\m % K<j+r.length
      · rw[if_pos aF,if_pos q]
        congr 1
        omega
      · rw[if_neg (by intro q2;apply q;omega),if_neg q]
    · have u9:(l.set i c')[m / K]'gy=l[m / K]'hq:=by
        rw[List.getElem_set_ne (fun e2=>e e2.symm)]
      rw[u9,if_neg]
      intro q
      apply e
      have h1:m<(i+1)*K:=by rw[Nat.add_mul];omega
      have h2:i*K<=m:=by omega
      have h3:=(Nat.le_div_iff_mul_le hK).2 h2
      have h4:=(Nat.div_lt_iff_lt_mul hK).2 h1
      omega
  · rw[if_neg aF,List.getElem?_eq_none (by rw[nh];omega),List.getElem?_eq_none (by rw[nh,List.length_set];omega)]
noncomputable section
def dq(n:Nat)(s:AS):AS:= @Bool.rec (fun _=>AS) s ⟨s.h,s.nx,s.mark,n::s.rd,s.wr⟩ (Nat.blt n s.mark)
def og(n:Nat)(o:Option aE)(s:AS):AS:= @Bool.rec (fun _=>AS) ⟨s.h.put n o,s.nx,s.mark,s.rd,s.wr⟩ ⟨s.h.put n o,s.nx,s.mark,n::s.rd,n::s.wr⟩ (Nat.blt n s.mark)
end
section
variable {P:Program} {s:AS} {call:bf} {t:Tr AV}
theorem tI{o:aE}(h1:Nat.blt n s.nx=true)(h2:s.h.get n=some o):di n s= .ok o (dq n s):=by
 obtain⟨hh,nx,mark,rd,wr⟩:=s
 have e1:Nat.blt n nx=true:=h1
 have e2:hh.get n=some o:=h2
 show @Bool.rec (fun _=>R aE) .bad (@Option.rec aE (fun _=>R aE) .bad (fun o=> @Bool.rec (fun _=>R aE) (.ok o ⟨hh,nx,mark,rd,wr⟩) (.ok o ⟨hh,nx,mark,n::rd,wr⟩) (Nat.blt n mark)) (hh.get n)) (Nat.blt n nx)=_
 rw[e1,e2]
 show @Bool.rec (fun _=>R aE) (.ok o ⟨hh,nx,mark,rd,wr⟩) (.ok o ⟨hh,nx,mark,n::rd,wr⟩) (Nat.blt n mark)= .ok o (@Bool.rec (fun _=>AS) ⟨hh,nx,mark,rd,wr⟩ ⟨hh,nx,mark,n::rd,wr⟩ (Nat.blt n mark))
 cases Nat.blt n mark<;>rfl
theorem y9(n:Nat)(s:AS):(dq n s).h=s.h/\(dq n s).nx=s.nx/\(dq n s).mark=s.mark:=by
 unfold dq
 cases Nat.blt n s.mark<;>exact⟨rfl,rfl,rfl⟩
theorem BF{o:Option aE}{p:aE}(h1:Nat.blt n s.nx=true)(h2:s.h.get n=some p)(h3:p.du=false)(ht:Nat.blt n top=true):dy n o s= .ok () (og n o s):=by
 obtain⟨hh,nx,mark,rd,wr⟩:=s
 have e1:(Nat.blt n nx&&Nat.blt n top)=true:=and_true.2 ⟨h1,ht⟩
 have e2:hh.get n=some p:=h2
 show @Bool.rec (fun _=>R Unit) .bad (@Option.rec aE (fun _=>R Unit) .bad (fun p=> @Bool.rec (fun _=>R Unit) (@Bool.rec (fun _=>R Unit) (.ok () ⟨hh.put n o,nx,mark,rd,wr⟩) (.ok () ⟨hh.put n o,nx,mark,n::rd,n::wr⟩) (Nat.blt n mark)) .bad p.du) (hh.get n)) (Nat.blt n nx&&Nat.blt n top)=_
 rw[e1,e2]
 show @Bool.rec (fun _=>R Unit) (@Bool.rec (fun _=>R Unit) (.ok () ⟨hh.put n o,nx,mark,rd,wr⟩) (.ok () ⟨hh.put n o,nx,mark,n::rd,n::wr⟩) (Nat.blt n mark)) .bad p.du=_
 rw[h3]
 show @Bool.rec (fun _=>R Unit) (.ok () ⟨hh.put n o,nx,mark,rd,wr⟩) (.ok () ⟨hh.put n o,nx,mark,n::rd,n::wr⟩) (Nat.blt n mark)= .ok () (@Bool.rec (fun _=>AS) ⟨hh.put n o,nx,mark,rd,wr⟩ ⟨hh.put n o,nx,mark,n::rd,n::wr⟩ (Nat.blt n mark))
 cases Nat.blt n mark<;>rfl
theorem pI(he:∀x,(enc x).length=K)(l:List α):(l.map enc).flatten.length=l.length*K:=by
 rw[vP (K:=K) (fun c hc=>by obtain⟨x,_,rfl⟩:=List.mem_map.1 hc;exact he x),List.length_map]
theorem L5(he:∀x,(enc x).length=K){k:Nat}(hc:l[i]? =some c)(hj:j+k<=K):i*K+j+k<=(l.map enc).flatten.length/\((l.map enc).flatten.drop (i*K+j)).take k=((enc c).drop j).take k:=by
 have hi:=(List.getElem?_eq_some_iff.1 hc).1
 have hmul:i*K+K<=l.length*K:=by have:=Nat.mul_le_mul_right K hi;rw[Nat.succ_mul] at this;exact this
 refine⟨by rw[pI he];omega,?_⟩
 apply List.ext_getElem?
 intro m
 rw[List.getElem?_take,List.getElem?_take]
 split
 ·rename_i hm
  rw[List.getElem?_drop,List.getElem?_drop,Nat.add_assoc]
  exact BE (fun c hc=>by obtain⟨x,_,rfl⟩:=List.mem_map.1 hc;exact he x) (by rw[List.length_map];exact hi) aF (by rw[List.getElem?_map,hc];rfl)
 ·rfl
theorem Ln(h:l[i]? =some c):(l.set i c')[i]? =some c':=by
 have hi:=(List.getElem?_eq_some_iff.1 h).1
 rw[List.getElem?_set_self hi]
noncomputable def aq(op:BinOp)(k:IntKind)(a b:Int):Int:=
 match op with
 | .and=>k.wrap (BitVec.ofInt k.bits a&&& BitVec.ofInt k.bits b).toNat
 | .or=>k.wrap (BitVec.ofInt k.bits a|||BitVec.ofInt k.bits b).toNat
 | .xor=>k.wrap (BitVec.ofInt k.bits a ^^^ BitVec.ofInt k.bits b).toNat
 | .andNot=>k.wrap (BitVec.ofInt k.bits a&&& ~~~BitVec.ofInt k.bits b).toNat
 | .shl=>k.wrap (a*2 ^ min b.toNat k.bits)
 | .shr=>a.fdiv (2 ^ min b.toNat k.bits)
 |_=>0
def YW:BinOp->Bool
 | .and| .or| .xor| .andNot=>true
 |_=>false
theorem TK{op:BinOp}{ty yt:TypeId}{x y:Operand}{k k':IntKind}{a b:Int}(h0:(aR t x,aR t y,nD op)=(some (.int k a),some (.int k' b),true))(hb:0<=b):(cW P (.binOp op ty x y yt)).val call t s= .ok (.int k (aq op k a b)) s:=by
 injection h0 with hx h0
 injection h0 with hy hs
 show kK P op ty x y call t s=_
 unfold kK
 have hd:decide (b<0)=false:=decide_eq_false aF
 cases op<;>first|(cases hs;done)|skip
 all_goals
  rw[hx,hy,dk,dk]
  show(bC true <| lift (mI P _ ty (.int k a) (.int k' b))) s=_
  rw[fG]
  unfold mI
  simp only[nD]
  unfold BB
  rw[hd]
  rfl
end
end Go.Rn
namespace Go.Rn
variable {ops:Array Oper}
def WE(ops:Array Oper):Bool:=ops.toList.zipIdx.all fun x=>x.1.after.toList.all fun e=> !Region.binds .any e||decide (e.on<x.2)
def Gs(ops:Array Oper)(x y:Oper):Bool:=
 match x.dst with
 |none=>false
 |some d=>(y.looksAt ops).contains d||y.dst == some d
def WG(ops:Array Oper)(b:Array Nat):Bool:=
 ops.toList.zipIdx.all fun x=>ops.toList.zipIdx.all fun y=> !(Gs ops x.1 y.1)||(Nat.beq x.2 y.2|| !loose b x.2 y.2)
def G2(ops:Array Oper):Bool:=WE ops&&WG ops (CheckFast.beforeF ops)
def oU:Code->Bool
 | .seq a b=>oU a&&oU b
 | .cond _ a b=>oU a&&oU b
 | .block _ b=>oU b
 | .loop b=>oU b
 | .scope b=>oU b
 | .region _ ops draw=> !draw||G2 ops
 | .rangeFunc _ _ a b=>oU a&&oU b
 |_=>true
def YX(P:Program):Bool:=P.funcs.toList.all fun fn=>match fn.body with
 |none=>true
 |some c=>oU c
theorem Er{i:Nat}{o:Oper}(h:ops[i]? =some o):(o,i)∈ops.toList.zipIdx:=by
 rw[List.mem_zipIdx_iff_getElem?];simpa using h
theorem Vl(h:G2 ops=true):B4 ops:=by
 unfold G2 at h
 obtain⟨h1,h2⟩:=Bool.and_eq_true_iff.1 h
 rw[CheckFast.beforeF_eq] at h2
 refine⟨fun j o e ho hm hb=>?_,fun i j x y d jS hx hy hd eX=>?_⟩
 ·have:=List.all_eq_true.1 (List.all_eq_true.1 h1 _ (Er ho)) e (Array.mem_toList_iff.2 hm)
  simp only[hb,Bool.not_true,Bool.false_or,decide_eq_true_eq] at this
  exact this
 ·have:=List.all_eq_true.1 (List.all_eq_true.1 h2 _ (Er hx)) _ (Er hy)
  have hc:Gs ops x y=true:=by
   unfold Gs
   rw[hd]
   simp only[Bool.or_eq_true,beq_iff_eq]
   rcases eX with q|q
   ·exact .inl (List.contains_iff_mem.2 q)
   ·exact .inr q
  simp only[hc,Bool.not_true,Bool.false_or,Bool.or_eq_true,Bool.not_eq_true'] at this
  rcases this with q|q
  ·exact absurd (Nat.beq_eq.mp q) jS
  ·exact q
theorem RW:∀{c:Code},oU c=true->gu c:=by
 intro c
 induction c with
 |seq a b uS uT=>intro h;obtain⟨h1,h2⟩:=Bool.and_eq_true_iff.1 h;exact⟨uS h1,uT h2⟩
 |cond _ a b uS uT=>intro h;obtain⟨h1,h2⟩:=Bool.and_eq_true_iff.1 h;exact⟨uS h1,uT h2⟩
 |block _ b ih=>intro h;exact ih h
 |loop b ih=>intro h;exact ih h
 |scope b ih=>intro h;exact ih h
 |region id ops draw=>intro h hd;subst hd;exact Vl h
 |rangeFunc _ _ a b uS uT=>intro h;obtain⟨h1,h2⟩:=Bool.and_eq_true_iff.1 h;exact⟨uS h1,uT h2⟩
 |_=>intro _;trivial
theorem aeh{P:Program}(hm:P.follows .mixedOrders=true)(h:YX P=true):fa P:=by
 refine⟨hm,fun f fn body hf hb=>?_⟩
 have:=List.all_eq_true.1 h fn (List.mem_of_getElem? (by simpa using hf))
 rw[hb] at this
 exact RW this
end Go.Rn
namespace Go.Rn
open Go.RowKit
noncomputable section
end
end Go.Rn
namespace Go.Rn
open Go.RowKit
inductive uk {C R:Type} (step:C->Option (C ⊕ R)):C->R->Prop where
 |done {c:C} {r:R}:step c=some (.inr r)->uk step c r
 |next {c c':C} {r:R}:step c=some (.inl c')->uk step c' r->uk step c r
noncomputable section
end
theorem uk.I{C R:Type}{step:C->Option (C ⊕ R)}{S:C->Prop}{E:R->Prop}(zz:∀c x,step c=some x->(match x with| .inl c'=>S c'| .inr r=>E r)->S c){c:C}{r:R}(h:uk step c r)(he:E r):S c:=by
 induction h with
 |done e=>exact zz _ _ e he
 |next e _ ih=>exact zz _ _ e (ih he)
inductive oh where
 |nil
 |row (nm o len:Nat)
def oh.av:oh->AV
 | .nil=>.slice none 0 (.known 0)
 | .row j o len=>.ae (top+j) o len
def oh.len:oh->Nat
 | .nil=>0
 | .row _ _ len=>len
def oh.nm:oh->Nat
 | .nil=>top
 | .row j _ _=>top+j
def oh.o:oh->Nat
 | .nil=>0
 | .row _ o _=>o
def oh.cells(F:Nat->Option (List AV))(K:Nat)(b:oh)(z:Int):Option (List AV):=
 if 0<=z/\z<(b.len:Int) then(F b.nm).bind fun row=>if b.o+z.toNat*K+K<=row.length then some ((row.drop (b.o+z.toNat*K)).take K) else none else none
theorem oh.one(b:oh):b.av.ct=true:=by cases b<;>rfl
section
variable {P:Program} {s s1:AS} {call:bf} {t:Tr AV}
end
end Go.Rn
namespace Go.Rn
theorem uk.back{C R:Type}{step:C->Option (C ⊕ R)}{T:C ⊕ R->Prop}(zz:∀c x,step c=some x->T x->T (.inl c)){c:C}{r:R}(h:uk step c r)(he:T (.inr r)):T (.inl c):=by
 induction h with
 |done e=>exact zz _ _ e he
 |next e _ ih=>exact zz _ _ e (ih he)
end Go.Rn
namespace Go.Rn
open Go.RowKit
variable {ρ σ:Ren} {x:AV} {v:Value} {n:Int}
theorem L6(k:IntKind)(lo hi:Int)(n:Int)(h:lo<=n/\n<=hi)(hk:(k.signed=true/\lo= -(2 ^ (k.bits - 1):Int)/\hi=(2 ^ (k.bits - 1):Int) - 1/\(2 ^ k.bits:Int)=2*(2 ^ (k.bits - 1):Int)/\(0:Int)<(2 ^ (k.bits - 1):Int))\/(k.signed=false/\lo=0/\hi=(2 ^ k.bits:Int) - 1)):IntKind.wrap k n=n:=by
  unfold IntKind.wrap
  rcases hk with⟨hs,h1,h2,h3,h4⟩|⟨hs,h1,h2⟩
  · simp only[hs,Bool.true_and,decide_eq_true_eq]
    subst h1;subst h2
    rw[h3]
    generalize (2 ^ (k.bits - 1):Int)=p at*
    by_cases q:0<=n
    · have:n % (2*p)=n:=Int.emod_eq_of_lt q aF
      rw[this,if_neg aF]
    · have:n % (2*p)=n+2*p:=by
        rw[←Int.add_emod_right,Int.emod_eq_of_lt aF aF]
      rw[this,if_pos aF];omega
  · simp only[hs,Bool.false_and]
    subst h1;subst h2
    have:n % (2 ^ k.bits:Int)=n:=Int.emod_eq_of_lt h.1 aF
    simp[this]
theorem JY(h: -9223372036854775808<=n/\n<=9223372036854775807):IntKind.wrap .i64 n=n:=L6 .i64 _ _ n h (.inl ⟨rfl,by decide,by decide,by decide,by decide⟩)
theorem RX(h:0<=n/\n<=255):IntKind.wrap .u8 n=n:=L6 .u8 _ _ n h (.inr ⟨rfl,by decide,by decide⟩)
section
variable {P:Program} {s s1:AS} {call:bf} {t:Tr AV}
end
def AV.gN(x:AV):Bool:=match x with
 | .ae n _ _=>Nat.ble top n
 |x=>x.flat
def AV.hi(x:AV):Bool:=match x with
 | .agg l=>l.all AV.gN
 | .tuple l=>l.all AV.gN
 |x=>x.gN
def um(ρ σ:Ren):Prop:=∀k x,top<=k->ρ k=some x->σ k=some x
theorem nN.hi(h:um ρ σ){n b sh:Nat}(ht:top<=n)(k:nN ρ n b sh):nN σ n b sh:=.inr ⟨ht,fun e=>k.high ht (by
 cases q:ρ (hn n b sh) with
 |none=>rfl
 |some x=>rw[h _ _ (mG _ _ _) q] at e;cases e)⟩
theorem VR.flat(h:x.flat=true)(k:VR ρ x v):VR σ x v:=by
 cases x<;>first|(simp only[VR] at k ⊢;exact k)|(cases h;done)|skip
 all_goals
  rename_i a
  cases a with
  |none=>simp only[VR] at k ⊢;exact k
  |some _=>cases h
theorem AV.F4(ni:um ρ σ)(h:x.gN=true)(k:VR ρ x v):VR σ x v:=by
 unfold AV.gN at h
 split at h
 ·have ht:=bH.1 h
  simp only[VR] at k ⊢
  exact k.imp id fun⟨b,sh,c,q1,q2⟩=>⟨b,sh,c,q1.hi ni ht,q2⟩
 ·exact VR.flat h k
theorem AV.FD(ni:um ρ σ):∀{l:List AV} {vs:List Value},l.all AV.gN=true->aQ ρ l vs->aQ σ l vs
  |[],_,_,hv=>by simpa only[aQ] using hv
  | y::l,vs,hy,hv=>by
    obtain⟨h1,h2⟩:=and_true.1 (show(y.gN&&l.all AV.gN)=true from hy)
    simp only[aQ] at hv ⊢
    obtain⟨a,as,e,h3,h4⟩:=hv
    exact⟨a,as,e,AV.F4 ni h1 h3,AV.FD ni h2 h4⟩
theorem AV.NG(ni:um ρ σ)(h:x.hi=true)(k:VR ρ x v):VR σ x v:=by
 unfold AV.hi at h
 split at h
 ·simp only[VR] at k ⊢;obtain⟨a,e,q⟩:=k;exact⟨a,e,AV.FD ni h q⟩
 ·simp only[VR] at k ⊢;obtain⟨a,e,q⟩:=k;exact⟨a,e,AV.FD ni h q⟩
 ·exact AV.F4 ni h k
theorem AV.M4(ni:um ρ σ):∀{l:List AV} {vs:List Value},l.all AV.hi=true->aQ ρ l vs->aQ σ l vs
  |[],_,_,hv=>by simpa only[aQ] using hv
  | y::l,vs,hy,hv=>by
    obtain⟨h1,h2⟩:=and_true.1 (show(y.hi&&l.all AV.hi)=true from hy)
    simp only[aQ] at hv ⊢
    obtain⟨a,as,e,h3,h4⟩:=hv
    exact⟨a,as,e,AV.NG ni h1 h3,AV.M4 ni h2 h4⟩
theorem WH:um ρ (iS ρ):=fun k x hk e=>by unfold iS;rw[if_pos hk];exact e
end Go.Rn
namespace Go.Rn
open Go.RowKit
variable {sp:Sp} {m:bf->List AV->M AV} {g:FuncId}
def cC(P:Program)(F:Nat->Option (List AV))(sp:Sp):Prop:=∀B:aZ,B.F=F->zw P B sp
def qX(sp:Sp)(g:FuncId)(m:bf->List AV->M AV):Sp:=fun f=>bif Nat.beq f g then some m else sp f
theorem Ki{m':bf->List AV->M AV}{f:FuncId}(h:qX sp g m f=some m'):(f=g/\m'=m)\/sp f=some m':=by
 unfold qX at h
 cases e:Nat.beq f g with
 |true=>rw[e] at h;injection h with h;exact .inl ⟨Nat.eq_of_beq_eq_true e,h.symm⟩
 |false=>rw[e] at h;exact .inr h
theorem cC.sK{P:Program}{F:Nat->Option (List AV)}(h:cC P F sp)(hl:∀call:bf,(∀t a,Local (call t a))->∀args,Local (m call args))(hs:∀B:aZ,B.F=F->∀call:bf,hJ P B call->(∀t a,Local (call t a))->∀(args:List AV) (x:AV) (s s1:AS) (ρ:Ren) (w:World) (vs:Array Value),bY s->Rel B ρ s.h w->iJ ρ->dH s.nx s1.nx ρ->
   m call args s= .ok x s1->aQ ρ args vs.toList->kL P ((callFunc g vs).run P w) (lN B ρ s s1 w x)):cC P F (qX sp g m):=by
 intro B hB
 refine⟨fun f m' e call mv args=>?_,fun f m' e call hc mv args x s s1 ρ w vs fi r hg hf hm hv=>?_⟩
 ·rcases Ki e with⟨_,rfl⟩|e
  ·exact hl call mv args
  ·exact(h B hB).loc f m' e call mv args
 ·rcases Ki e with⟨rfl,rfl⟩|e
  ·exact hs B hB call hc mv args x s s1 ρ w vs fi r hg hf hm hv
  ·exact(h B hB).Aq f m' e call hc mv args x s s1 ρ w vs fi r hg hf hm hv
end Go.Rn
namespace Go.Rn
end Go.Rn
namespace Go.Rn
open Go.RowKit
section
variable {P:Program} {B:aZ} {ρ:Ren} {w:World} {s s1:AS}
end
end Go.Rn
namespace Go.Rn
open Go.RowKit
noncomputable section
def zA(aI:Nat)(h0:Tr aE)(ns:List Nat)(s:AS):AS:=match nz aI h0 ns s with| .ok _ s1=>s1| .bad=>s
def zB(aI:Nat)(h0:Tr aE)(ns:List Nat)(s:AS):Bool:=match nz aI h0 ns s with| .ok _ _=>true| .bad=>false
end
theorem F5{aI:Nat}{h0:Tr aE}{ns:List Nat}{s:AS}(h:zB aI h0 ns s=true):nz aI h0 ns s= .ok () (zA aI h0 ns s):=by
 unfold zB at h
 unfold zA
 cases e:nz aI h0 ns s with
 |bad=>rw[e] at h;cases h
 |ok u s1=>rfl
section
variable {P:Program} {s s1:AS} {call:bf} {t:Tr AV}
end
def bL(n:Int):Prop:= -9223372036854775808<=n/\n<=9223372036854775807
instance (n:Int):Decidable (bL n):=by unfold bL;infer_instance
end Go.Rn
namespace Go.Rn
open Go.RowKit
variable {P:Program} {va:Bool} {rs ps:Array TypeId} {e:TypeId}
def wk(P:Program):DataW (List UInt8)->Option FuncId->Bool
 | .nil,none=>true
 | .held (b::r),some f=>(List.range P.funcs.size).filter (fun f=>(P.funcs[f]?).any (·.name.toUTF8.data.toList == b::r)) == [f]
 |_,_=>false
def tJ(P:Program):List (DataW (List UInt8))->List (Option FuncId)->Bool
 |[],[]=>true
 |d::ds,f::fs=>wk P d f&&tJ P ds fs
 |_,_=>false
def YY(P:Program)(d:DataW (List UInt8))(fs:List (Option FuncId)):Bool:=
 match d with
 | .agg ds=>tJ P ds fs
 |_=>false
def FE:Option FuncId->AV
 |none=>.nilFunc
 |some f=>.func (.func f) [] []
def wJ:Option FuncId->Value
 |none=>.nilFunc
 |some f=>.func (.func f) #[] #[]
theorem aei(ρ:Ren)(f:Option FuncId):VR ρ (FE f) (wJ f):=by
 cases f with
 |none=>simp only[FE,wJ,VR]
 |some f=>simp only[FE,wJ,VR,aQ];exact⟨rfl,_,_,rfl,rfl,rfl⟩
theorem Lo{α β:Type}{f:α->Option β}:∀{l:List α} {r:List β},l.mapM f=some r->l.length=r.length/\∀(i:Nat) (x:α),l[i]? =some x->∃y,r[i]? =some y/\f x=some y
  | [],r,h=>by
    simp at h;subst h;exact⟨rfl,fun i x hx=>by simp at hx⟩
  | a ::l,r,h=>by
    rw[List.mapM_cons] at h
    cases e:f a with
    |none=>simp[e] at h
    | some b=>
      cases e2:l.mapM f with
      |none=>simp[e,e2] at h
      | some bs=>
        simp[e,e2] at h;subst h
        obtain⟨h1,h2⟩:=Lo e2
        refine⟨by simp[h1],fun i x hx=>?_⟩
        cases i with
        |zero=>simp at hx;subst hx;exact⟨b,rfl,e⟩
        |succ i=>simp at hx;obtain⟨y,h3,h4⟩:=h2 i x hx;exact⟨y,by simpa using h3,h4⟩
theorem Jt{w:World}{fuel:Nat}{v:Value}{d:DataW (List UInt8)}{q:List MemPlace}{f:Option FuncId}(he:P.underlying e=some (.func ps rs va))(h:DataW.trod (funcToken P) P w 0 (fun _=>true) true fuel e [v]=some (d,q))(hk:wk P d f=true):v=wJ f:=by
  unfold wk at hk
  split at hk
  · cases fuel with
    |zero=>simp[DataW.trod] at h
    | succ n=>
      cases v<;>simp[DataW.trod,he] at h
      rfl
  · exact func_of_trod he (by simpa using hk) h
  · cases hk
theorem JZ:∀{ds:List (DataW (List UInt8))} {fs:List (Option FuncId)},tJ P ds fs=true->ds.length=fs.length/\∀(i:Nat) d f,ds[i]? =some d->fs[i]? =some f->wk P d f=true
  |[],[],_=>⟨rfl,fun i d f h=>by simp at h⟩
  |[],_::_,h=>by simp[tJ] at h
  |_::_,[],h=>by simp[tJ] at h
  | d::ds,f::fs,h=>by
    simp only[tJ,Bool.and_eq_true] at h
    obtain⟨h1,h2⟩:=JZ h.2
    refine⟨by simp[h1],fun i a b ha hb=>?_⟩
    cases i with
    |zero=>simp at ha hb;subst ha;subst hb;exact h.1
    |succ i=>simp at ha hb;exact h2 i a b ha hb
theorem aeb{W:World}{name:String}{d:DataW Unit}{g:Nat}{t:TypeId}{n:Nat}{fs:List (Option FuncId)}(h:funcsAt P W name d)(hg:P.globalNamed name=some g)(vd:(P.globals[g]?).map (·.type)=some t)(ht:P.underlying t=some (.array n e))(he:P.underlying e=some (.func ps rs va))(hc:P.cellsOf e=1)(vg:P.cellsOf t=n)(hd:YY P d.funcsOut fs=true):
    ∃c ty fr,W.heap[g]? =some (.cells c ty fr)/\fs.length=c.size/\∀(i:Nat) f,fs[i]? =some f->c[i]? =some (wJ f):=by
  obtain⟨g',t',cs,fuel,p,h1,h2,h3,h4⟩:=h
  obtain rfl:g=g':=Option.some.inj (hg.symm.trans h1)
  obtain rfl:t=t':=Option.some.inj (vd.symm.trans h2)
  have iG:∃ty fr,W.heap[g]? =some (.cells cs ty fr):=by
    unfold World.var? at h3
    rw[hg] at h3
    simp only[Option.bind_some] at h3
    split at h3
    · rename_i c ty fr e;injection h3 with h3;subst h3;exact⟨ty,fr,e⟩
    · cases h3
  obtain⟨ty,fr,iG⟩:=iG
  cases fuel with
  |zero=>simp[DataW.trod] at h4
  | succ m=>
    rw[DataW.trod_step] at h4
    unfold DataW.trodStep at h4
    simp only[ht,hc,Nat.mul_one] at h4
    split at h4
    · rename_i hlen
      rw[Option.map_eq_some_iff] at h4
      obtain⟨xs,h5,h6⟩:=h4
      obtain⟨h7,h8⟩:=Lo h5
      have uo:d.funcsOut= .agg (xs.map (·.1)):=by injection h6 with h6 _;exact h6.symm
      rw[uo] at hd
      obtain⟨h9,eA⟩:=JZ (show tJ P (xs.map (·.1)) fs=true from hd)
      have IE:xs.length=fs.length:=by simpa using h9
      have get:∀(i:Nat) f,fs[i]? =some f->cs[i]? =some (wJ f):=by
        intro i f hf
        have hi:i<fs.length:=(List.getElem?_eq_some_iff.1 hf).1
        obtain⟨y,nf,ij⟩:=h8 i i (by rw[List.getElem?_range (by simp at h7;omega)])
        obtain⟨v,hv⟩:∃v,(cs.toList.drop i).take 1=[v]:=by
          cases hq:(cs.toList.drop i).take 1 with
          | nil=>
            rw[hq] at ij
            cases m with
            |zero=>simp[DataW.trod] at ij
            |succ k=>simp[DataW.trod,he] at ij
          | cons v l=>
            have:((cs.toList.drop i).take 1).length<=1:=List.length_take_le _ _
            rw[hq] at this
            cases l with
            |nil=>exact⟨v,rfl⟩
            |cons=>simp at this
        rw[hv] at ij
        have zu:=Jt (f:=f) (d:=y.1) (q:=y.2) he ij (eA i y.1 f (by rw[List.getElem?_map,nf];rfl) hf)
        have:(cs.toList.drop i)[0]? =some v:=by
          have:((cs.toList.drop i).take 1)[0]? =some v:=by rw[hv];rfl
          rw[List.getElem?_take_of_lt aF] at this
          exact this
        rw[List.getElem?_drop,Nat.add_zero,Array.getElem?_toList] at this
        rw[this,zu]
      refine⟨cs,ty,fr,iG,?_,get⟩
      have iI:=hlen
      rw[vg] at iI
      simp at iI h7
      omega
    · cases h4
theorem vY(l:List AV)(hl:l.length<=top)(i:Nat)(hi:i<l.length):(Tr.fill l 0 .nil).get i=l[i]? :=by
 rw[Tr.rH _ _ _ _ aF,if_pos aF];simp
end Go.Rn
namespace Go.Rn
open Go.RowKit
noncomputable section
end
end Go.Rn
namespace Go.Rn
open Go.RowKit
noncomputable section
end
section
variable {P:Program} {B:aZ} {aI:Nat} {s s1:AS} {call:bf} {t:Tr AV} {ops:Array Oper} {f nt i:Nat} {K:List Item} {G:AF->AS->Prop} {acc:List cT} {rs:List ResultVar} {v v':AV}
theorem gi.go(n:Nat)(l:List (Nat×AV))(H:gi P call G f nt K ops (i+n) (kM t l) s)(h:(Nat.ble (i+n) ops.size,jg P call nt ops i n t s)=(true,.ok (kM t l) s):=by as_aux_lemma=>kernel_rfl):gi P call G f nt K ops i t s:=gi.Gr n l h H
theorem gi.IF(n:Nat)(l:List (Nat×AV))(L:List (Nat×Option aE))(ep:Nat)(rd wr:List Nat)(H:gi P call G f nt K ops (i+n) (kM t l) (ss s L ep rd wr))(h:(Nat.ble (i+n) ops.size,jg P call nt ops i n t s)=(true,.ok (kM t l) (ss s L ep rd wr)):=by as_aux_lemma=>kernel_rfl):gi P call G f nt K ops i t s:=gi.Gq n l L ep rd wr h H
theorem gS.go(n:Nat)(l:List (Nat×AV))(ms:List cT)(H:gS P call G f nt K ops (acc++ms) (i+n) (kM t l) s)(h:(Nat.ble (i+n) ops.size,lO P call nt ops i n t s)=(true,.ok (kM t l,ms) s):=by as_aux_lemma=>kernel_rfl):gS P call G f nt K ops acc i t s:=gS.Gr n l ms h H
theorem gS.IF(n:Nat)(l:List (Nat×AV))(L:List (Nat×Option aE))(ep:Nat)(rd wr:List Nat)(ms:List cT)(H:gS P call G f nt K ops (acc++ms) (i+n) (kM t l) (ss s L ep rd wr))(h:(Nat.ble (i+n) ops.size,lO P call nt ops i n t s)=(true,.ok (kM t l,ms) (ss s L ep rd wr)):=by as_aux_lemma=>kernel_rfl):gS P call G f nt K ops acc i t s:=gS.Gq n l L ep rd wr ms h H
end
section
variable {P:Program} {s s1:AS} {call:bf} {t:Tr AV}
theorem TL{fo:Operand}{g:FuncId}{xs:Array Operand}{ts:Array TypeId}{args:List AV}{v:AV}(h0:(aR t fo,iv (aR t) xs.toList)=(some (.func (.func g) [] []),some args))(h:call (.fn g) args s= .ok v s1):
  (cW P (.call ⟨.value fo,xs,ts⟩)).val call t s= .ok v s1:=by
 injection h0 with hf hx
 show mN fo xs.toList call t s=_
 unfold mN
 rw[hx,dk,hf,dk]
 show ju call (.func (.func g) [] []) args s=_
 have:ju call (.func (.func g) [] []) args=call (.fn g) args:=by
  unfold ju
  simp
 rw[this];exact h
end
noncomputable section
end
section
variable {P:Program} {F:Nat->Option (List AV)} {sp:Sp} {g n k:Nat} {ad:Option (Nat×Nat)} {cp:kT} {s:AS} {l:List AV} {a b c d:ByteArray} {n1 n2 n3 n4:Nat}
end
end Go.Rn
namespace Go.Rn
open Go.RowKit
noncomputable section
end
end Go.Rn
namespace Go.Rn
end Go.Rn
namespace Go.Rn
open Go.RowKit
variable {n:Nat} {α:Type} {y x:Operand} {ty e:TypeId} {ts:Array TypeId} {l:List α} {i:TypeInfo} {enc:α->List AV}
section
variable {P:Program} {s:AS} {call:bf} {t:Tr AV}
theorem D4{off k:Nat}{l:List AV}(h1:Nat.blt n s.nx=true)(h2:s.h.get n=some (.cells l.length (Tr.fill l 0 .nil) []))(hl:l.length<=top)(dO:0<k)(hk:off+k<=l.length):iU n off k s= .ok ((l.drop off).take k) (dq n s):=by
  cases k with
  |zero=>omega
  | succ k=>
    show((di n).bind fun o=>match o with
      | .cells m t z=>bC (Nat.ble (off+(k+1)) m) <| lift (jJ t z (k+1) off)
      | .ro m t=>bC (Nat.ble (off+(k+1)) m) <| lift (jJ t [] (k+1) off)
      |_=>fail) s=_
    rw[M.dA (tI h1 h2)]
    show bC (Nat.ble (off+(k+1)) l.length) (lift (jJ (Tr.fill l 0 .nil) [] (k+1) off)) (dq n s)=_
    rw[bH.2 hk,fG,Ek hl _ _ hk]
    rfl
theorem WI{L:List α}{len:Nat}{cap:kT}{n0 o0 k0:Nat}(hx:aR t x=some (.slice (some (n,0)) len cap))(hlen:len=l.length)(hy:aR t y=some (.ae n0 o0 k0))(h0:ts[0]? =some ty)(hu:P.underlying ty=some (.slice e))(hi:P.info? e=some i)(hz:and (qv i) (nG P ts[1]?)=true)(aT:Gg i.size len cap=true)(ng:top<=n0)(cF:∀s,call (.row n0 o0 (k0*i.size)) [] s= .ok (.agg (L.map enc).flatten) s)(hk:k0=L.length)(hn:s.h.get n=some (aD enc l))(cV:(Nat.blt n s.nx&&Nat.blt s.nx top)=true)(qY:∀x:α,(enc x).length=i.size/\(enc x).all AV.ct=true)(hb:Nat.beq i.bytes 0=false)(qO:2*(l.length+L.length)*i.bytes+4096*i.bytes<=room)(lR:(l.length+L.length)*i.size<=top):
    ∃ rd wr,(∀k∈rd,k=n\/k∈s.rd)/\(∀k∈wr,k=n\/k∈s.wr)/\(s.mark=0->rd=s.rd/\wr=s.wr)/\
      (cW P (.call ⟨.builtin .append, #[x,y],ts⟩)).val call t s= .ok (.slice (some (s.nx,0)) (l++L).length (.aX (l++L).length i.size)) ⟨(s.h.put n none).put s.nx (some (aD enc (l++L))),s.nx+1,s.mark,rd,wr⟩:=by
  subst hlen;subst hk
  obtain⟨oi,IG⟩:=and_true.1 cV
  have aau:=(blt_eq _ _).mp oi
  have G3:=(blt_eq _ _).mp IG
  have me:∀l:List α,(l.map enc).flatten.length=l.length*i.size:=fun l=>by
    have:=vP (K:=i.size) (l:=l.map enc) fun c hc=>by obtain⟨a,_,rfl⟩:=List.mem_map.1 hc;exact(qY a).1
    rw[this,List.length_map]
  have xc:∀l:List α,(l.map enc).flatten.all AV.ct=true:=by
    intro l
    induction l with
    |nil=>rfl
    |cons x l ih=>simp only[List.map_cons,List.flatten_cons,List.all_append,ih,(qY x).2,Bool.and_true]
  have cQ:(l.map enc).flatten.length<=top:=by
    rw[me]
    have:=Nat.mul_le_mul_right i.size (show l.length<=l.length+L.length by omega)
    omega
  have Gt:∃rd,(∀k∈rd,k=n\/k∈s.rd)/\(s.mark=0->rd=s.rd)/\iU n 0 (l.length*i.size) s= .ok (l.map enc).flatten ⟨s.h,s.nx,s.mark,rd,s.wr⟩:=by
    cases hk:l.length*i.size with
    | zero=>
      have:(l.map enc).flatten=[]:=List.eq_nil_of_length_eq_zero (by rw[me,hk])
      rw[this]
      exact⟨s.rd,fun k h=>.inr h,fun _=>rfl,rfl⟩
    | succ k=>
      have hr:=D4 (n:=n) (off:=0) (k:=k+1) (l:=(l.map enc).flatten) (s:=s) oi hn cQ (Nat.succ_pos _) (by rw[me,hk];omega)
      rw[List.drop_zero, ←hk, ←me,List.take_length] at hr
      rw[←hk, ←me]
      refine⟨(dq n s).rd,?_,fun hm=>?_,?_⟩
      · intro k h
        unfold dq at h
        cases q:Nat.blt n s.mark with
        |false=>rw[q] at h;exact .inr h
        |true=>rw[q] at h;rcases List.mem_cons.1 h with h|h;exact .inl h;exact .inr h
      · unfold dq
        rw[hm,show Nat.blt n 0=false from by cases q:Nat.blt n 0 with|false=>rfl|true=>have:=(blt_eq _ _).mp q;omega]
      · rw[hr]
        congr 1
        unfold dq
        cases Nat.blt n s.mark<;>rfl
  obtain⟨fY,a1,a2,a3⟩:=Gt
  have nP : ∃rd wr,(∀k∈rd,k=n\/k∈s.rd)/\(∀k∈wr,k=n\/k∈s.wr)/\(s.mark=0->rd=s.rd/\wr=s.wr)/\
      ((di n).bind fun ob=>bC ob.rM <| (dy n none).bind fun _=>grown i.size i.bytes (l.length+L.length) (l.map enc).flatten (L.map enc).flatten) ⟨s.h,s.nx,s.mark,fY,s.wr⟩= .ok (.slice (some (s.nx,0)) (l.length+L.length) (.aX (l.length+L.length) i.size)) ⟨(s.h.put n none).put s.nx (some (aD enc (l++L))),s.nx+1,s.mark,rd,wr⟩:=by
    rw[M.dA (tI (s:=⟨s.h,s.nx,s.mark,fY,s.wr⟩) oi hn)]
    rw[show(aD enc l).rM=true from rfl,fG]
    obtain⟨b1,b2,b3⟩:=y9 n ⟨s.h,s.nx,s.mark,fY,s.wr⟩
    rw[M.dA (BF (o:=none) (p:=aD enc l) (s:=dq n ⟨s.h,s.nx,s.mark,fY,s.wr⟩) (by rw[b2];exact oi) (by rw[b1];exact hn) rfl (by rw[blt_eq];omega))]
    have G4:(l.map enc).flatten++(L.map enc).flatten=((l++L).map enc).flatten:=by rw[List.map_append,List.flatten_append]
    unfold grown
    rw[show(and (Nat.ble (2*(l.length+L.length)*i.bytes+4096*i.bytes) room) (not (Nat.beq i.bytes 0)))=true from and_true.2 ⟨bH.2 qO,by rw[hb];rfl⟩,fG,G4]
    have hw :∃rd wr,(∀k∈rd,k=n\/k∈s.rd)/\(∀k∈wr,k=n\/k∈s.wr)/\(s.mark=0->rd=s.rd/\wr=s.wr)/\og n none (dq n ⟨s.h,s.nx,s.mark,fY,s.wr⟩)=⟨s.h.put n none,s.nx,s.mark,rd,wr⟩:=by
      unfold og dq
      cases q:Nat.blt n s.mark with
      | false=>
        refine⟨fY,s.wr,a1,fun k h=>.inr h,fun hm=>⟨a2 hm,rfl⟩,?_⟩
        show(@Bool.rec (fun _=>AS) _ _ (Nat.blt n s.mark))=_
        rw[q]
      | true=>
        refine⟨n::n::fY,n::s.wr,?_,?_,fun hm=>?_,?_⟩
        · intro k h
          rcases List.mem_cons.1 h with h|h
          · exact .inl h
          · rcases List.mem_cons.1 h with h|h
            · exact .inl h
            · exact a1 k h
        · intro k h
          rcases List.mem_cons.1 h with h|h
          · exact .inl h
          · exact .inr h
        · rw[hm] at q;have:=(blt_eq _ _).mp q;omega
        · show(@Bool.rec (fun _=>AS) _ _ (Nat.blt n s.mark))=_
          rw[q]
    obtain⟨rd,wr,c1,c2,c3,c4⟩:=hw
    rw[c4]
    refine⟨rd,wr,c1,c2,c3,?_⟩
    have zy:=KP (s:=⟨s.h.put n none,s.nx,s.mark,rd,wr⟩) (l:=((l++L).map enc).flatten) (by rw[me];simpa using lR) (xc _) G3
    exact(M.dA zy).trans rfl
  obtain⟨rd,wr,d1,d2,d3,d4⟩:=nP
  refine⟨rd,wr,d1,d2,d3,?_⟩
  show oJ P .append ts [x,y] call t s=_
  unfold oJ
  have G5:iv (aR t) [x,y]=some [.slice (some (n,0)) l.length cap,.ae n0 o0 L.length]:=by simp only[iv,hx,hy]
  rw[G5,dk]
  show tD P call ts (.slice (some (n,0)) l.length cap) n0 o0 L.length s=_
  unfold tD
  rw[bH.2 ng,fG,h0,dk]
  simp only[hu]
  rw[hi,dk,hz,fG,aT,fG]
  have hr:qw call n0 o0 (L.length*i.size) s= .ok (L.map enc).flatten s:=by
    unfold qw
    rw[M.dA (cF s)]
    show bC (Nat.beq (L.map enc).flatten.length (L.length*i.size)) (M.pure (L.map enc).flatten) s=_
    rw[me,fT.2 rfl,fG];rfl
  rw[M.dA hr,M.dA a3,d4]
  simp
theorem WJ{c:α}{m:Nat}(hx:aR t x=some (.slice (some (n,0)) l.length (.aX l.length i.size)))(hy:aR t y=some (.slice (some (m,0)) 1 (.known 1)))(h0:ts[0]? =some ty)(hu:P.underlying ty=some (.slice e))(hi:P.info? e=some i)(hz:and (qv i) (nG P ts[1]?)=true)(hn:s.h.get n=some (aD enc l))(hm:s.h.get m=some (.cells (enc c).length (Tr.fill (enc c) 0 .nil) []))(cV:(Nat.blt n s.nx&&(Nat.blt m s.nx&&Nat.blt s.nx top))=true)(qY:∀x:α,(enc x).length=i.size/\(enc x).all AV.ct=true)(xf:0<i.size)(hb:Nat.beq i.bytes 0=false)(qO:2*(l.length+1)*i.bytes+4096*i.bytes<=room)(lR:(l.length+1)*i.size<=top):
    ∃ rd wr,(∀k∈rd,k=n\/k=m\/k∈s.rd)/\(∀k∈wr,k=n\/k∈s.wr)/\(s.mark=0->rd=s.rd/\wr=s.wr)/\
      (cW P (.call ⟨.builtin .append, #[x,y],ts⟩)).val call t s= .ok (.slice (some (s.nx,0)) (l++[c]).length (.aX (l++[c]).length i.size)) ⟨(s.h.put n none).put s.nx (some (aD enc (l++[c]))),s.nx+1,s.mark,rd,wr⟩:=by
  obtain⟨oi,cV⟩:=and_true.1 cV
  obtain⟨lU,IG⟩:=and_true.1 cV
  have aau:=(blt_eq _ _).mp oi
  have G3:=(blt_eq _ _).mp IG
  have me:∀l:List α,(l.map enc).flatten.length=l.length*i.size:=fun l=>by
    have:=vP (K:=i.size) (l:=l.map enc) fun c hc=>by obtain⟨a,_,rfl⟩:=List.mem_map.1 hc;exact(qY a).1
    rw[this,List.length_map]
  have xc:∀l:List α,(l.map enc).flatten.all AV.ct=true:=by
    intro l
    induction l with
    |nil=>rfl
    |cons x l ih=>simp only[List.map_cons,List.flatten_cons,List.all_append,ih,(qY x).2,Bool.and_true]
  have Ou:(l.length+1)*i.size=l.length*i.size+i.size:=by rw[Nat.add_mul,Nat.one_mul]
  have cQ:(l.map enc).flatten.length<=top:=by rw[me];omega
  have pc:∀{k q:Nat} {s':AS},k∈(dq q s').rd->k=q\/k∈s'.rd:=by
    intro k q s' h
    unfold dq at h
    cases z:Nat.blt q s'.mark with
    |false=>rw[z] at h;exact .inr h
    |true=>rw[z] at h;rcases List.mem_cons.1 h with h|h;exact .inl h;exact .inr h
  have cK:∀(q:Nat) (s':AS),s'.mark=0->dq q s'=s':=by
    intro q s' h
    unfold dq
    rw[h,show Nat.blt q 0=false from by cases z:Nat.blt q 0 with|false=>rfl|true=>have:=(blt_eq _ _).mp z;omega]
  have NH:∀(q:Nat) (s':AS),dq q s'=⟨s'.h,s'.nx,s'.mark,(dq q s').rd,s'.wr⟩:=by
    intro q s'
    unfold dq
    cases Nat.blt q s'.mark<;>rfl
  have hf:firstCells i.size 1 (.slice (some (m,0)) 1 (.known 1)) s= .ok (enc c) (dq m s):=by
    rw[DY jQ,Nat.one_mul]
    have hr:=D4 (n:=m) (off:=0) (k:=i.size) (l:=enc c) (s:=s) lU hm (by rw[(qY c).1];omega) xf (by rw[(qY c).1];omega)
    rw[hr,List.drop_zero, ←(qY c).1,List.take_length]
  let s1:AS:=⟨s.h,s.nx,s.mark,(dq m s).rd,s.wr⟩
  have IH:dq m s=s1:=NH m s
  have Gt:∃rd,(∀k∈rd,k=n\/k∈s1.rd)/\(s.mark=0->rd=s1.rd)/\iU n 0 (l.length*i.size) s1= .ok (l.map enc).flatten ⟨s.h,s.nx,s.mark,rd,s.wr⟩:=by
    cases hk:l.length*i.size with
    | zero=>
      have:(l.map enc).flatten=[]:=List.eq_nil_of_length_eq_zero (by rw[me,hk])
      rw[this]
      exact⟨s1.rd,fun k h=>.inr h,fun _=>rfl,rfl⟩
    | succ k=>
      have hr:=D4 (n:=n) (off:=0) (k:=k+1) (l:=(l.map enc).flatten) (s:=s1) oi hn cQ (Nat.succ_pos _) (by rw[me,hk];omega)
      rw[List.drop_zero, ←hk, ←me,List.take_length] at hr
      rw[←hk, ←me]
      exact⟨(dq n s1).rd,fun k h=>pc h,fun Aj=>by rw[cK n s1 Aj],hr.trans (congrArg _ (NH n s1))⟩
  obtain⟨fY,a1,a2,a3⟩:=Gt
  have nP : ∃rd wr,(∀k∈rd,k=n\/k∈s1.rd)/\(∀k∈wr,k=n\/k∈s.wr)/\(s.mark=0->rd=s1.rd/\wr=s.wr)/\
      ((di n).bind fun ob=>bC ob.rM <| (dy n none).bind fun _=>grown i.size i.bytes (l.length+1) (l.map enc).flatten (enc c)) ⟨s.h,s.nx,s.mark,fY,s.wr⟩= .ok (.slice (some (s.nx,0)) (l.length+1) (.aX (l.length+1) i.size)) ⟨(s.h.put n none).put s.nx (some (aD enc (l++[c]))),s.nx+1,s.mark,rd,wr⟩:=by
    rw[M.dA (tI (s:=⟨s.h,s.nx,s.mark,fY,s.wr⟩) oi hn)]
    rw[show(aD enc l).rM=true from rfl,fG]
    obtain⟨b1,b2,b3⟩:=y9 n ⟨s.h,s.nx,s.mark,fY,s.wr⟩
    rw[M.dA (BF (o:=none) (p:=aD enc l) (s:=dq n ⟨s.h,s.nx,s.mark,fY,s.wr⟩) (by rw[b2];exact oi) (by rw[b1];exact hn) rfl (by rw[blt_eq];omega))]
    have G4:(l.map enc).flatten++enc c=((l++[c]).map enc).flatten:=by simp
    unfold grown
    rw[show(and (Nat.ble (2*(l.length+1)*i.bytes+4096*i.bytes) room) (not (Nat.beq i.bytes 0)))=true from and_true.2 ⟨bH.2 qO,by rw[hb];rfl⟩,fG,G4]
    have hw :∃rd wr,(∀k∈rd,k=n\/k∈s1.rd)/\(∀k∈wr,k=n\/k∈s.wr)/\(s.mark=0->rd=s1.rd/\wr=s.wr)/\og n none (dq n ⟨s.h,s.nx,s.mark,fY,s.wr⟩)=⟨s.h.put n none,s.nx,s.mark,rd,wr⟩:=by
      unfold og dq
      cases q:Nat.blt n s.mark with
      | false=>
        refine⟨fY,s.wr,a1,fun k h=>.inr h,fun hm=>⟨a2 hm,rfl⟩,?_⟩
        show(@Bool.rec (fun _=>AS) _ _ (Nat.blt n s.mark))=_
        rw[q]
      | true=>
        refine⟨n::n::fY,n::s.wr,?_,?_,fun hm=>?_,?_⟩
        · intro k h
          rcases List.mem_cons.1 h with h|h
          · exact .inl h
          · rcases List.mem_cons.1 h with h|h
            · exact .inl h
            · exact a1 k h
        · intro k h
          rcases List.mem_cons.1 h with h|h
          · exact .inl h
          · exact .inr h
        · rw[hm] at q;have:=(blt_eq _ _).mp q;omega
        · show(@Bool.rec (fun _=>AS) _ _ (Nat.blt n s.mark))=_
          rw[q]
    obtain⟨rd,wr,c1,c2,c3,c4⟩:=hw
    rw[c4]
    refine⟨rd,wr,c1,c2,c3,?_⟩
    have zy:=KP (s:=⟨s.h.put n none,s.nx,s.mark,rd,wr⟩) (l:=((l++[c]).map enc).flatten) (by rw[me];simpa using lR) (xc _) G3
    exact(M.dA zy).trans rfl
  obtain⟨rd,wr,d1,d2,d3,d4⟩:=nP
  refine⟨rd,wr,fun k h=>?_,d2,fun h=>⟨(d3 h).1.trans (by show(dq m s).rd=s.rd;rw[cK m s h]),(d3 h).2⟩,?_⟩
  · rcases d1 k h with h|h
    · exact .inl h
    · exact .inr (pc h)
  show oJ P .append ts [x,y] call t s=_
  unfold oJ
  have G5:iv (aR t) [x,y]=some [.slice (some (n,0)) l.length (.aX l.length i.size),.slice (some (m,0)) 1 (.known 1)]:=by simp only[iv,hx,hy]
  rw[G5,dk]
  show pH P ts (.slice (some (n,0)) l.length (.aX l.length i.size)) (.slice (some (m,0)) 1 (.known 1)) s=_
  unfold pH
  rw[h0,dk]
  simp only[hu]
  rw[hi,dk,hz,fG]
  show((firstCells i.size 1 (.slice (some (m,0)) 1 (.known 1))).bind fun new=>bC (Nat.beq new.length (1*i.size)) <| rJ i.size i.bytes (some (n,0)) l.length (.aX l.length i.size) 1 new) s=_
  rw[M.dA hf,(qY c).1,Nat.one_mul,fT.2 rfl,fG,IH]
  show(bC (Nat.beq i.size i.size) <| match Nat.ble (l.length+1) l.length with
    | true=>match (some (n,0):Option (Nat×Nat)) with
      |some (m,o)=>(qo m (o+l.length*i.size) (enc c)).bind fun _=>M.pure (.slice (some (m,o)) (l.length+1) (.aX l.length i.size))
      |none=>fail
    | false=>match (some (n,0):Option (Nat×Nat)) with
      |some (m,0)=>(iU m 0 (l.length*i.size)).bind fun dN=>(di m).bind fun o=>bC o.rM <| (dy m none).bind fun _=>grown i.size i.bytes (l.length+1) dN (enc c)
      |_=>fail) s1=_
  have aav:Nat.ble (l.length+1) l.length=false:=by
    cases q:Nat.ble (l.length+1) l.length with
    |false=>rfl
    |true=>have:=bH.1 q;omega
  rw[fT.2 rfl,fG]
  simp only[aav]
  rw[M.dA a3,d4]
  simp
end
end Go.Rn
namespace Go.Rn
open Go.RowKit
variable {x i:Operand} {ty kt et:TypeId} {n:Nat} {m:List (Int×Int)} {k:Int}
section
variable {P:Program} {s s1:AS} {call:bf} {t:Tr AV}
theorem YZ(hx:aR t x=some (.map (some n)))(hi:aR t i=some (.int .i64 k))(hu:P.underlying ty=some (.map kt et))(hk:lK P 10000 kt (.int .i64 k)=true)(hp:plainKey P kt (.int .i64 k)=true)(hz:ma P et=some (.int .i64 0))(hn:s.h.get n=some (eL m))(cV:Nat.blt n s.nx=true):(cW P (.lookup ty x i false)).val call t s= .ok (.int .i64 (getM m k)) (dq n s):=by
 show qB P ty x i false call t s=_
 unfold qB
 rw[hx,hi,dk,dk]
 unfold rN
 simp only[hu]
 have hf:rT P kt (.int .i64 k) (.map (some n)) s= .ok (im m) (dq n s):=by
  show((di n).bind fun o=>match o with
   | .map es _=>M.pure es
   | .mH es=>bC (or (plainKey P kt (.int .i64 k)) (short es)) <| M.pure es
   |_=>fail) s=_
  rw[M.dA (tI cV hn)]
  rfl
 rw[M.dA hf,hk,fG]
 have II:findKey P kt (.int .i64 k) (im m)=jZ (.int .i64 k) (im m) 0:=by
  unfold findKey
  simp only[po,hp]
 rw[II]
 rcases E6 k m 0 with⟨h1,h2,_⟩|⟨j,y,h1,h2,_⟩
 ·rw[h1,dk,h2]
  show(bh (ma P et) fun z=>M.pure (sI false z false)) (dq n s)=_
  rw[hz,dk]
  rfl
 ·rw[h1,dk,h2]
  rfl
theorem Y0{y:Operand}{v:Int}(hx:aR t x=some (.map (some n)))(hi:aR t i=some (.int .i64 k))(hy:aR t y=some (.int .i64 v))(hu:P.underlying ty=some (.map kt et))(hk:lK P 10000 kt (.int .i64 k)=true)(hp:plainKey P kt (.int .i64 k)=true)(hn:s.h.get n=some (eL m))(q1:Nat.blt n s.nx=true)(q2:Nat.blt n top=true):(cW P (.mapUpdate ty x i y)).val call t s= .ok (.tuple []) (og n (some (eL (fW m k v))) (dq n s)):=by
  show mC P ty x i y call t s=_
  unfold mC
  rw[hx,hi,hy,dk,dk,dk]
  have w:∀o:aE,dy n (some o) (dq n s)= .ok () (og n (some o) (dq n s)):=fun o=>BF (by rw[(y9 n s).2.1];exact q1) (by rw[(y9 n s).1];exact hn) rfl q2
  have aaw:qF P ty (.map (some n)) (.int .i64 k) (.int .i64 v) s= .ok () (og n (some (eL (fW m k v))) (dq n s)):=by
    unfold qF
    simp only[hu]
    rw[M.dA (tI q1 hn)]
    show(bC (lK P 10000 kt (.int .i64 k)) <| bh (findKey P kt (.int .i64 k) (im m)) fun f=>tX n (.int .i64 k) (.int .i64 v) (im m) m.length f) (dq n s)=_
    rw[hk,fG]
    have II:findKey P kt (.int .i64 k) (im m)=jZ (.int .i64 k) (im m) 0:=by
      unfold findKey
      simp only[po,hp]
    rw[II]
    rcases E6 k m 0 with⟨h1,_,h3⟩|⟨j,z,h1,_,h3,h4⟩
    · rw[h1,dk]
      show dy n (some (.map (im m++[(.int .i64 k,.int .i64 v)]) (m.length+1))) (dq n s)=_
      rw[w,h3 v]
      simp only[eL,im,List.map_append,List.map_cons,List.map_nil,List.length_append,List.length_cons,List.length_nil]
    · rw[h1,dk]
      show(bh (im m)[0+j]? fun dN=>bC (sameBits dN.1 (.int .i64 k)) <| dy n (some (.map (putAt (im m) (0+j) (.int .i64 k) (.int .i64 v)) m.length))) (dq n s)=_
      rw[Nat.zero_add]
      have he:(im m)[j]? =some (.int .i64 k,.int .i64 z):=by unfold im;rw[List.getElem?_map,h3];rfl
      rw[he,dk]
      have hs:sameBits (.int .i64 k) (.int .i64 k)=true:=by
        show(match sameKey (.int .i64 k) (.int .i64 k) with|some true=>true|_=>false)=true
        rw[TG];simp
      show(bC (sameBits (.int .i64 k) (.int .i64 k)) <| dy n (some (.map (putAt (im m) j (.int .i64 k) (.int .i64 v)) m.length))) (dq n s)=_
      rw[hs,fG,w,(h4 v).1]
      simp only[eL,(h4 v).2]
  rw[M.dA aaw]
  rfl
end
end Go.Rn
