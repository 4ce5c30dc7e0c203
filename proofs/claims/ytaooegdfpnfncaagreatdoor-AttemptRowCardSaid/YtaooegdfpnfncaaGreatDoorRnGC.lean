import Derived.Test.YtaooegdfpnfncaaGreatDoorRnGB
import Derived.CheckFast
import Derived.Lib.ItoaNum
import Derived.LaidMore
import Derived.LaidHandle
import Derived.Lib.LaidTab
import Derived.Sort.Grow
import Derived.Deep.Draws
set_option maxRecDepth 100000
set_option maxHeartbeats 8000000
set_option linter.unusedSimpArgs false
set_option linter.unusedVariables false
namespace Go.Rn
open Go.RowKit
variable {U:Nat} {v:Value} {b a:AV}
structure Start (U:Nat) (h0:Tr ae) (ρ:aw) (w:World):Prop where
 g:gk ρ
 free:∀k,U<=k->ρ k=none
 is:∀n o,n<top->h0.get n=some o->o.m7=true/\∃b N o',ρ n=some (b,N)/\w.heap[b]? =some o'/\OR ρ N o o'
theorem Start.rel{h0:Tr ae}{ρ:aw}{w:World}(S:Start U h0 ρ w)(ht:U<=top):Rel (agl w) ρ h0 w:=by
 refine⟨fun n o hn h=>?_,fun n m o p b N M hn hm h1 h2 da _ _=>?_,fun n m es ex left cur hn h=>?_,fun _ hk=>hk,fun i j m es ex left cur hJ iW iK iL hi _ h1 _=>?_,fun n b sh e=>absurd (S.free _<|Nat.le_trans ht<|gg n b sh) e,uR.no (fun n k v hn hg=>by have:=(S.is n _ hn hg).1;cases this) ⟨Nat.le_refl _,fun n o hn hg _=>by obtain⟨_,b,N,o',h1,h2,_⟩:=S.is n o hn hg;exact⟨b,N,h1,gV h2⟩⟩⟩
 ·obtain⟨hr,b,N,o',h1,h2,h3⟩:=S.is n o hn h;have hr:=ae.kf hr;exact⟨b,N,o',h1,h2,h3,fun q=>by rw[hr] at q;cases q⟩
 ·have e1:=ae.kf (S.is n o hn h1).1;have e2:=ae.kf (S.is m p hm h2).1;rcases da with q|q
  ·rw[e1] at q;cases q
  ·rw[e2] at q;cases q
 ·have:=(S.is n _ hn h).1;cases this
 ·have:=(S.is i _ hi h1).1;cases this
section
variable {P:Program} {B:aI} {ρ:aw} {w:World} {s s1:AS} {SG:aO}
end
noncomputable section
def Fj(U:Nat):AV->AV->Bool
 | .nilFunc,.nilFunc=>true
 | .func (.func f) [] [],.func (.func g) [] []=>Nat.beq f g
 | .slice none 0 (.known 0),.slice none 0 (.known 0)=>true
 | .ab a b c,.ab d e f=>and (Nat.beq a d)<|and (Nat.beq b e)<|and (Nat.beq c f)<|and (Nat.blt d U)<|Nat.blt d top
 |x,y=>match sameKey x y with
  |some true=>true
  |_=>false
def GY(U:Nat)(t u:Tr AV):Nat->Bool
 |0=>true
 |i+1=>match t.get i,u.get i with
  |some a,some b=>and (Fj U a b)<|GY U t u i
  |_,_=>false
def oX(U:Nat):ae->ae->Bool
 | .ro m t,.ro n u=>and (Nat.beq m n)<|GY U t u n
 | .ur m t,.ur n u=>and (Nat.beq m n)<|GY U t u n
 |_,_=>false
def fe(U:Nat)(h0:Tr ae):List Nat->M Unit
 |[]=>M.pure ()
 |n::ns=>(bz n).bind fun o=>aC (h0.get n) fun p=>aF (oX U o p) <| fe U h0 ns
end
theorem SF.fe(U:Nat)(h0:Tr ae):∀ns,SF (fe U h0 ns)
 |[]=>SF.pure _
 |n::ns=>SF.bind (SF.bz n) fun _=>SF.aC fun _ _=>SF.aF fun _=>SF.fe U h0 ns
theorem UO{ρ:aw}(h:Fj U a b=true)(hv:VR ρ a v):VR (fun k=>if k<U then ρ k else none) b v:=by
 unfold Fj at h;split at h
 ·simp only[VR] at hv ⊢;exact hv
 ·rename_i f g;have:f=g:=eB.1 h;subst this;simp only[VR,az] at hv ⊢;exact hv
 ·simp only[VR] at hv ⊢;exact hv
 ·obtain⟨q1,q2⟩:=and_true.1 h;obtain⟨q3,q4⟩:=and_true.1 q2;obtain⟨q5,q6⟩:=and_true.1 q4;have e1:=eB.1 q1;have e2:=eB.1 q3;have e3:=eB.1 q5;subst e1;subst e2;subst e3;obtain⟨q6,q7⟩:=and_true.1 q6;have cF:=(blt_eq _ _).mp q6;have gI:=(blt_eq _ _).mp q7;simp only[VR] at hv ⊢;rcases hv with hv|⟨b,sh,c,h1,h2⟩
  ·exact .inl hv
  ·exact .inr ⟨b,sh,c,.inl ⟨by omega,(if_pos cF).trans<|h1.low ak⟩,h2⟩
 ·split at h
  ·rename_i e;have:=sameKey_eq e;subst this;unfold sameKey at e;split at e<;>first|(cases e;done)|(simp only[VR] at hv ⊢;exact hv)
  ·cases h
theorem Nt{U:Nat}{t u:Tr AV}:∀{n:Nat},GY U t u n=true->∀i,i<n->∃a b,t.get i=some a/\u.get i=some b/\Fj U a b=true
 |0,_,i,hi=>by omega
 |n+1,h,i,hi=>by
  unfold GY at h;split at h
  ·rename_i a b e1 e2;obtain⟨q1,q2⟩:=and_true.1 h;by_cases q:i=n
   ·subst q;exact⟨a,b,e1,e2,q1⟩
   ·exact Nt q2 i ak
  ·cases h
theorem Tv{ρ:aw}(h:Fj U a b=true)(_:VR ρ a v):b.cj=true:=by
 unfold Fj at h;split at h
 ·rfl
 ·rfl
 ·rfl
 ·rfl
 ·split at h
  ·rename_i e;have:=sameKey_eq e;subst this;unfold sameKey at e;split at e<;>first|(cases e;done)|rfl
  ·cases h
theorem aby{N:Nat}{ρ:aw}{o p:ae}{o':Obj}(h:oX U o p=true)(hO:OR ρ N o o'):p.m7=true/\OR (fun k=>if k<U then ρ k else none) N p o':=by
 unfold oX at h;split at h
 ·rename_i m t n u;obtain⟨q1,q2⟩:=and_true.1 h;have e1:=eB.1 q1;subst e1;obtain⟨c,e,fr,rfl,h1,h2,row⟩:=hO;refine⟨rfl,c,e,fr,rfl,h1,h2,fun i hi=>?_⟩;obtain⟨x,v,a1,a2,a3,a4⟩:=row i hi;obtain⟨a,b,b1,b2,b3⟩:=Nt q2 i hi;rw[a1] at b1;cases b1;exact⟨b,v,b2,Tv b3 a4,a3,UO b3 a4⟩
 ·rename_i m t n u;obtain⟨q1,q2⟩:=and_true.1 h;have e1:=eB.1 q1;subst e1;obtain⟨c,e,fr,rfl,row⟩:=hO;refine⟨rfl,c,e,fr,rfl,fun i hi=>?_⟩;obtain⟨x,v,a1,a2,a3,a4⟩:=row i hi;obtain⟨a,b,b1,b2,b3⟩:=Nt q2 i hi;rw[a1] at b1;cases b1;exact⟨b,v,b2,Tv b3 a4,a3,UO b3 a4⟩
 ·cases h
theorem tH{U:Nat}{h0:Tr ae}:∀{ns:List Nat} {s s1:AS} {u:Unit},fe U h0 ns s= .ok u s1->s1.h=s.h/\s1.nx=s.nx/\∀n∈ns,n<s.nx/\∃o p,s.h.get n=some o/\h0.get n=some p/\oX U o p=true
 |[],s,s1,u,h=>by obtain⟨_,rfl⟩:=bI (show M.pure () s= .ok u s1 from h);exact⟨rfl,rfl,fun n hn=>by cases hn⟩
 |m::ns,s,s1,u,h=>by
  obtain⟨o,s2,h1,h2⟩:=M.aR (show((bz m).bind fun o=>aC (h0.get m) fun p=>aF (oX U o p) <| fe U h0 ns) s= .ok u s1 from h);obtain⟨a1,a2,a3,a4⟩:=fY h1;obtain⟨p,h3,h4⟩:=bw h2;obtain⟨h5,h6⟩:=cY h4;obtain⟨b1,b2,b3⟩:=tH h6;refine⟨b1.trans a3,b2.trans a4,fun n hn=>?_⟩;rcases List.mem_cons.1 hn with rfl|hn
  ·exact⟨a1,o,p,a2,h3,h5⟩
  ·obtain⟨c1,q1,q2,c2,c3,c4⟩:=b3 n hn;exact⟨by rw[←a4];exact c1,q1,q2,by rw[←a3];exact c2,c3,c4⟩
end Go.Rn
namespace Go.Rn
open Go.RowKit
section
variable {P:Program} {B:aI} {ρ:aw} {w:World} {s s1:AS} {SG:aO}
end
end Go.Rn
namespace Go.Rn
open Go.RowKit
noncomputable section
end
section
variable {P:Program} {SG:aO}
end
end Go.Rn
namespace Go.Rn
open Go.RowKit
variable {k o n:Nat} {x:AV} {aQ:AF} {f:FuncId} {vs:Array Value} {j:Option Code} {fn:Func} {body:Code} {args:List AV} {F:Nat->Option (List AV)}
noncomputable section
def bt.VK:bt->Bool
 | .go _=>false
 | .leave _ _=>true
def pX(P:Program)(SG:aO)(fr:AF):M bt:=fun s=> @dite (R bt) (∃k,∃x s1,eh P SG k fr s= .ok x s1/\x.VK=true) (Classical.propDecidable _) (fun h=>eh P SG h.choose fr s) fun _=>.bad
def vK(P:Program)(f ntmps:Nat)(rs:List ResultVar)(body:Code)(SG:aO)(args:List AV):M AV:=
 aF (Nat.ble (max ntmps args.length) top) <|
 (pX P SG ⟨f,eg args,max ntmps args.length,[.code body],[],none⟩).bind fun st=> @bt.rec (fun _=>M AV) (fun _=>fail) (fun fr j=>finish P rs fr j) st
def xE(P:Program)(SG:aO)(l:Nat)(args:List AV):M AV:=(getLoop l).bind fun o=>match o with
 | .loop _ _ fn t nt ps a b _=>
  aF (and (Nat.beq args.length ps.length)<|ps.all fun p=>Nat.blt p nt) <|
  (pX P SG ⟨fn,je ps args t,nt,[.code a,.beginRound,.code b],[],some l⟩).bind fun st=> @bt.rec (fun _=>M AV) (fun _=>fail) (fun _ j=>endRound l j) st
 |_=>fail
abbrev Sp:=FuncId->Option (aO->List AV->M AV)
def j8(P:Program)(sp:Sp)(f:FuncId):aO->List AV->M AV:=
 match sp f with
 |some m=>m
 |none=>match P.funcs[f]? with
  |none=>fun _ _=>fail
  |some fn=>match fn.body with
   |none=>fun _ _=>fail
   |some body=>match fn.name == "runtime.NumGoroutine" with
    |true=>fun _ _=>fail
    |false=>vK P f fn.ntmps fn.results.toList body
def rp(F:Nat->Option (List AV))(n o k:Nat):M AV:=aC (F n) fun l=>aF (Nat.ble (o+k) l.length) <| M.pure<|.agg<|(l.drop o).take k
def bh(P:Program)(sp:Sp)(F:Nat->Option (List AV)):Nat->aO
 |0=>fun t _=>match t with
  | .row n o k=>rp F n o k
  |_=>fail
 |n+1=>fun t args=>match t with
  | .fn f=>j8 P sp f (bh P sp F n) args
  | .round l=>xE P (bh P sp F n) l args
  | .row n o k=>rp F n o k
end
section
variable {P:Program} {B:aI} {ρ:aw} {w:World} {s s1:AS} {SG:aO} {b:Frame} {a:Act} {cs:List Frame}
theorem T8{fr:AF}:eh P SG (k+1) fr s=((jg P SG fr).bind fun x=> @bt.rec (fun _=>M bt) (eh P SG k) (fun fr j=>M.pure<|.leave fr j) x) s:=rfl
theorem BN{fr:AF}(h:jg P SG fr s= .ok (.go aQ) s1):eh P SG (k+1) fr s=eh P SG k aQ s1:=by rw[T8,M.bO h]
theorem adu{fr:AF}(h:jg P SG fr s= .ok (.leave aQ j) s1):eh P SG (k+1) fr s= .ok (.leave aQ j) s1:=by rw[T8,M.bO h];rfl
theorem NW:∀{k k':Nat} {fr aQ:AF} {j:Option Code} {s s1:AS},eh P SG k fr s= .ok (.leave aQ j) s1->k<=k'->eh P SG k' fr s= .ok (.leave aQ j) s1
 |0,_,_,_,_,_,_,h,_=>by cases h
 |k+1,0,_,_,_,_,_,_,hk=>by omega
 |k+1,k'+1,fr,aQ,j,s,s1,h,hk=>by
  obtain⟨y,s2,h1,h2⟩:=M.aR (show((jg P SG fr).bind fun x=> @bt.rec (fun _=>M bt) (eh P SG k) (fun fr j=>M.pure<|.leave fr j) x) s= .ok _ s1 from h);cases y with
  |go qB=>rw[BN h1];exact NW (show eh P SG k qB s2=_ from h2) ak
  |leave qB j'=>rw[adu h1];exact h2
theorem JC{fr:AF}(h:eh P SG k fr s= .ok (.leave aQ j) s1):pX P SG fr s= .ok (.leave aQ j) s1:=by
 have hex:∃k,∃x s1,eh P SG k fr s= .ok x s1/\x.VK=true:=⟨k,_,_,h,rfl⟩;unfold pX;rw[dif_pos hex];obtain⟨x,s2,h1,h2⟩:=hex.choose_spec;cases x with
 |go _=>cases h2
 |leave ko j2=>have e1:=NW h1<|Nat.le_max_left hex.choose k;have e2:=NW h<|Nat.le_max_right hex.choose k;rw[e1] at e2;rw[h1,e2]
theorem Tw{fr:AF}{x:bt}(h:pX P SG fr s= .ok x s1):∃k aQ j,x= .leave aQ j/\eh P SG k fr s= .ok (.leave aQ j) s1:=by
 unfold pX at h;split at h
 ·rename_i hex;obtain⟨y,s2,h1,h2⟩:=hex.choose_spec;cases y with
  |go _=>cases h2
  |leave ko j2=>rw[h1] at h;cases h;exact⟨_,ko,j2,rfl,h1⟩
 ·cases h
theorem SF.pX(P:Program){SG:aO}(hl:∀t a,SF<|SG t a)(fr:AF):SF<|pX P SG fr:=by intro s v s1 fi h;obtain⟨k,aQ,j,rfl,h1⟩:=Tw h;obtain⟨dr,dw,d,al⟩:=SF.eh P hl k fr s _ s1 fi h1;refine⟨dr,dw,d,fun A m0 t ag hA=>?_⟩;obtain⟨t1,e1,e2⟩:=al A m0 t ag hA;exact⟨t1,JC e1,e2⟩
theorem SF.vK(P:Program)(f n:Nat)(rs:List ResultVar)(body:Code){SG:aO}(bJ:∀t a,SF<|SG t a)(args:List AV):SF<|vK P f n rs body SG args:=
 SF.aF (fun _=>SF.bind (SF.pX P bJ _) (fun x=>by
  cases x with
  |go fr=>exact SF.fail
  |leave fr j=>exact SF.finish P rs fr j))
theorem SF.xE(P:Program){SG:aO}(bJ:∀t a,SF<|SG t a)(l:Nat)(args:List AV):SF<|xE P SG l args:=by
 unfold Rn.xE;refine SF.bind (SF.getLoop _) fun o=>?_;split
 ·exact SF.aF fun _=>SF.bind (SF.pX P bJ _) (fun x=>by
   cases x with
   |go fr=>exact SF.fail
   |leave fr j=>exact SF.endRound l j)
 ·exact SF.fail
structure LW (P:Program) (B:aI) (sp:Sp):Prop where
 loc:∀f m,sp f=some m->∀SG:aO,(∀t a,SF<|SG t a)->∀args,SF<|m SG args
 F0:∀f m,sp f=some m->∀SG:aO,fR P B SG->(∀t a,SF<|SG t a)->∀(args:List AV) (x:AV) (s s1:AS) (ρ:aw) (w:World) (vs:Array Value),bF s->Rel B ρ s.h w->gk ρ->dK s.nx s1.nx ρ->
  m SG args s= .ok x s1->az ρ args vs.toList->jo P ((callFunc f vs).run P w) (ki B ρ s s1 w x)
theorem ua{sp:Sp}{m:aO->List AV->M AV}(h:sp f=some m):j8 P sp f=m:=by unfold j8;rw[h]
theorem OH{sp:Sp}(h:sp f=none)(ch:P.funcs[f]? =some fn)(cw:fn.body=some body)(dE:(fn.name == "runtime.NumGoroutine")=false):j8 P sp f=vK P f fn.ntmps fn.results.toList body:=by unfold j8;simp only[h,ch,cw,dE]
theorem T9(sp:Sp)(f:FuncId):(∃m,sp f=some m/\j8 P sp f=m)\/(j8 P sp f=fun _ _=>fail)\/(∃fn body,P.funcs[f]? =some fn/\fn.body=some body/\(fn.name == "runtime.NumGoroutine")=false/\j8 P sp f=vK P f fn.ntmps fn.results.toList body):=by
 cases e:sp f with
 |some m=>exact .inl ⟨m,rfl,ua e⟩
 |none=>
  cases e1:P.funcs[f]? with
  |none=>refine .inr<|.inl ?_;unfold j8;simp only[e,e1]
  |some fn=>
   cases e2:fn.body with
   |none=>refine .inr<|.inl ?_;unfold j8;simp only[e,e1,e2]
   |some body=>
    cases e3:(fn.name == "runtime.NumGoroutine") with
    |true=>refine .inr<|.inl ?_;unfold j8;simp only[e,e1,e2,e3]
    |false=>exact .inr<|.inr ⟨fn,body,rfl,e2,e3,OH e e1 e2 e3⟩
theorem acn(P:Program){sp:Sp}(hs:LW P B sp)(f:FuncId){SG:aO}(hl:∀t a,SF<|SG t a)(args:List AV):SF<|j8 P sp f SG args:=by
 rcases T9 (P:=P) sp f with⟨m,e1,e2⟩|e|⟨fn,body,e1,e2,e3,e⟩
 ·rw[e2];exact hs.loc f m e1 SG hl args
 ·rw[e];exact SF.fail
 ·rw[e];exact SF.vK P _ _ _ _ hl _
theorem SF.rp(F:Nat->Option (List AV))(n o k:Nat):SF<|rp F n o k:=SF.aC fun _ _=>SF.aF fun _=>SF.pure _
theorem DM(P:Program){sp:Sp}(hs:LW P B sp)(F:Nat->Option (List AV)):∀(n:Nat) (t:Ip) (args:List AV),SF (bh P sp F n t args)
 |0,.fn _,_=>SF.fail
 |0,.round _,_=>SF.fail
 |0,.row n o k,_=>SF.rp F n o k
 |n+1,.fn f,args=>acn P hs f (fun t a=>DM P hs F n t a) args
 |n+1,.round l,args=>SF.xE P (fun t a=>DM P hs F n t a) l args
 |_+1,.row n o k,_=>SF.rp F n o k
theorem WR{ρ:aw}{c:Array Value}:∀{l:List AV} {off:Nat},(∀(i:Nat) (x:AV),l[i]? =some x->∃v,c[off+i]? =some v/\VR ρ x v)->∃vs:List Value,vs.length=l.length/\az ρ l vs/\∀(j:Nat) (v:Value),vs[j]? =some v->c[off+j]? =some v
 |[],off,_=>⟨[],rfl,by simp only[az],fun j v h=>by simp at h⟩
 |x::l,off,h=>by
  obtain⟨v,h1,h2⟩:=h 0 x rfl;obtain⟨vs,g1,g2,g3⟩:=WR (l:=l) (off:=off+1) (fun i y hy=>by obtain⟨u,k1,k2⟩:=h (i+1) y (by simpa using hy);exact⟨u,by rw[Nat.add_assoc,Nat.add_comm 1 i];exact k1,k2⟩);refine⟨v::vs,by simp[g1],by simp only[az];exact⟨v,vs,rfl,h2,g2⟩,fun j u hj=>?_⟩;cases j with
  |zero=>simp at hj;subst hj;simpa using h1
  |succ j=>have:=g3 j u (by simpa using hj);rw[Nat.add_assoc,Nat.add_comm 1 j] at this;exact this
theorem adv(h:rp F n o k s= .ok x s1):s1=s/\∃l,F n=some l/\o+k<=l.length/\x= .agg ((l.drop o).take k):=by unfold rp at h;obtain⟨l,h1,h2⟩:=bw h;obtain⟨h3,h4⟩:=cY h2;obtain⟨rfl,rfl⟩:=bI h4;exact⟨rfl,l,h1,aL.1 h3,rfl⟩
theorem UP(hF:B.F=F)(r:Rel B ρ s.h w)(h:rp F n o k s= .ok x s1):
 s1.h=s.h/\s1.nx=s.nx/\∀b sh,ρ (hn n b sh)≠none->∃l vs,x= .agg l/\vs.length=k/\az ρ l vs/\∃c e fr,w.heap[b]? =some (.cells c e fr)/\∀(j:Nat) (v:Value),vs[j]? =some v->c[sh+o+j]? =some v:=by
 obtain⟨rfl,l,h1,h2,rfl⟩:=adv h;rw[←hF] at h1;refine⟨rfl,rfl,fun b sh hb=>?_⟩;obtain⟨_,l',c,e,fr,g1,g2,_,g4⟩:=r.fz n b sh hb;rw[h1] at g1;cases g1;obtain⟨vs,q1,q2,q3⟩:=WR (ρ:=ρ) (c:=c) (l:=(l.drop o).take k) (off:=sh+o) (fun i y hy=>by
  have wO:l[o+i]? =some y:=by
   rw[List.getElem?_take] at hy;split at hy
   ·rw[List.getElem?_drop] at hy;exact hy
   ·cases hy
  obtain⟨v,k1,k2,_⟩:=g4 (o+i) y wO;exact⟨v,by rw[Nat.add_assoc];exact k1,VR.mono (Ha ρ) _ _ k2⟩)
 refine⟨_,vs,rfl,?_,q2,c,e,fr,g2,q3⟩;rw[q1,List.length_take,List.length_drop];omega
theorem Tx(bU:P.follows .mixedOrders=true)(hc:fR P B SG)(hl:∀t a,SF<|SG t a){af:AF}{x:bt}(bH:Fr ρ af b a)(ay:At B ρ s af.nt af.tmps w a)(hf:dK s.nx s1.nx ρ)(h:pX P SG af s= .ok x s1):mf P B ρ s s1 w af b cs (lone (b.atR a af.todo) cs w) x:=by obtain⟨k,aQ,j,rfl,h1⟩:=Tw h;exact JN bU hc hl k bH ay hf h1
theorem aco(bU:P.follows .mixedOrders=true)(hc:fR P B SG)(hl:∀t a,SF<|SG t a)(ch:P.funcs[f]? =some fn)(cw:fn.body=some body)(dE:(fn.name == "runtime.NumGoroutine")=false)(dq:iD body)(fi:bF s)(r:Rel B ρ s.h w)(hg:gk ρ)(hf:dK s.nx s1.nx ρ)(h:vK P f fn.ntmps fn.results.toList body SG args s= .ok x s1)(hv:az ρ args vs.toList):jo P ((callFunc f vs).run P w)<|ki B ρ s s1 w x:=by
 have bJ:(callFunc f vs).run P w= .ok (.enter f vs) w:=by
  have HA:(program).run P w= .ok P w:=rfl;have hn:fn.name≠ "runtime.NumGoroutine" :=by simpa using dE
  simp only[callFunc,Sem.run_bind,HA,Result.andThen_ok,ch,dE,cw];simp
 rw[bJ];unfold vK at h;obtain⟨h1,h2⟩:=cY h;have pn:=aL.1 h1;obtain⟨y,s2,h3,h4⟩:=M.aR h2;cases y with
 |go fr=>cases h4
 |leave fr j=>have IF:finish P fn.results.toList fr j s2= .ok x s1:=h4;have dI:=(SF.pX P hl ⟨f,eg args,max fn.ntmps args.length,[.code body],[],none⟩).cG fi h3;have C5:=(SF.finish P fn.results.toList fr j).le dI IF;exact SN ch cw dI (fun cs=>Tx (b:={(default:Frame) with fn:=f,kind:=.normal,roundOf:=none}) (a:={tmps:=vs++Array.replicate (fn.ntmps - vs.size) undef,defers:=[]}) bU hc hl ⟨rfl,rfl,trivial,rfl,.cons dq .nil⟩ ⟨Jf hv _ pn,r,hg,pn,fi⟩ (hf.sub (Nat.le_refl _) C5) h3) IF
theorem abz(bU:P.follows .mixedOrders=true)(hc:fR P B SG)(hl:∀t a,SF<|SG t a){l bl N:Nat}(fi:bF s)(r:Rel B ρ s.h w)(hg:gk ρ)(hf:dK s.nx s1.nx ρ)(h:xE P SG l args s= .ok x s1)(hv:az ρ args vs.toList)(C6:ρ l=some (bl,N)):jo P ((Instr.yield bl vs).run P w)<|ki B ρ s s1 w x:=by
 unfold xE at h;obtain⟨o,s2,h1,h2⟩:=M.aR h;obtain⟨h3,st,bT,fn,t,nt,ps,aa,bb,d,rfl⟩:=DL h1;obtain⟨h4,h5⟩:=cY h2;obtain⟨y,s3,h6,h7⟩:=M.aR h5;obtain⟨q1,q2⟩:=and_true.1 h4;have hlen:=eB.1 q1;have RC:∀p∈ps,p<nt:=fun p hp=>by have:=List.all_eq_true.1 q2 p hp;rw[←blt_eq];exact this
 obtain⟨hx,kj,hh,cJ⟩:=fY h3;have dI:bF s2:=(SF.bz _).cG fi h3;have cF:l<top:=Nat.lt_of_lt_of_le hx fi.nx;obtain⟨o',hb,hO,hB⟩:=r.block cF kj C6;obtain⟨ta,db,M,rfl,y8,iX,hd,gI⟩:=hO;have PH:(Instr.yield bl vs).run P w= .ok (.round bl fn ((ps.zip vs.toList).foldl (fun tmps (t,a)=>tmps.setIfInBounds t a) ta) aa bb) w:=by
  have lz:¬(vs.size≠ps.toArray.size):=by have:=hv.length;simp at this ⊢;omega
  simp only[Instr.yield,Sem.run_bind,DH hb,Result.andThen_ok,if_neg lz,Sem.run_pure];rw[←Array.foldl_toList];simp
 rw[PH];intro c cs;cases y with
 |go fr=>cases h7
 |leave fr j=>
  have C3:endRound l j s3= .ok x s1:=h7;let b:Frame:={(default:Frame) with fn:=fn,kind:=.normal,roundOf:=some bl};let a:Act:={tmps:=(ps.zip vs.toList).foldl (fun tmps (t,a)=>tmps.setIfInBounds t a) ta,defers:=[]};have jv:=(SF.pX P hl ⟨fn,je ps args t,nt,[.code aa,.beginRound,.code bb],[],some l⟩).cG dI h6;have C7:=(SF.endRound l j).le jv C3;have bH:Fr ρ ⟨fn,je ps args t,nt,[.code aa,.beginRound,.code bb],[],some l⟩ b a:=⟨rfl,rfl,⟨N,C6⟩,rfl,.cons gI.assign<|.cons trivial<|.cons gI.body .nil⟩;have ay:At B ρ s2 nt (je ps args t) w a:=⟨Nh iX y8 hv RC,by rw[hh];exact r,hg,iX,dI⟩;obtain⟨σ,a',w',e1,e2,e3,e4,_,_,e6,e7⟩:=Tx (cs:=c::cs) bU hc hl bH ay (by rw[cJ];exact hf.sub (Nat.le_refl _) C7) h6;have iY:Leaves j fr.todo:=e6;obtain⟨f1,rfl,nJ,f2,f3,f4⟩:=SY (P:=P) jv e2.rel (e1.le _ _ C6) iY.code C3;refine⟨.bool j.isNone,nJ,⟨σ,by rw[f1, ←cJ];exact e1,by simp only[VR],f3,e4.trans f4⟩,?_⟩;have ya:Frame.round bl fn ((ps.zip vs.toList).foldl (fun tmps (t,a)=>tmps.setIfInBounds t a) ta) aa bb .normal=b.atR a [.code aa,.beginRound,.code bb]:=rfl;rw[ya];refine Steps.trans e7<|.one ?_;show step P (lone (b.atR a' fr.todo) (c::cs) w')=_;unfold Leaves at iY;split at iY
  ·rw[iY];exact stepR_round_end rfl rfl f2
  ·obtain⟨k,e⟩:=iY;rw[e];exact stepR_round_ret rfl rfl f2
  ·obtain⟨k,e,e'⟩:=iY;rw[e];exact stepR_round_exit rfl rfl e' f2
  ·obtain⟨k,e,e'⟩:=iY;rw[e];exact stepR_round_goto rfl rfl e' f2
  ·cases iY
theorem Ua(hP:bC P){sp:Sp}(hs:LW P B sp){F:Nat->Option (List AV)}(hF:B.F=F):∀(n:Nat),fR P B (bh P sp F n)
 |0=>⟨(fun f args x s s1 ρ w vs _ _ _ _ h _=>by cases h),(fun l b N args x s s1 ρ w vs _ _ _ _ h _ _=>by cases h),(fun n o k x s s1 ρ w _ r h=>UP hF r h)⟩
 |n+1=>by
  have ih:=Ua hP hs hF n;refine⟨fun f args x s s1 ρ w vs fi r hg hf h hv=>?_,fun l b N args x s s1 ρ w vs fi r hg hf h hv hl=>abz hP.mixed ih (DM P hs F n) fi r hg hf h hv hl,(fun n o k x s s1 ρ w _ r h=>UP hF r h)⟩;have h':j8 P sp f (bh P sp F n) args s= .ok x s1:=h;rcases T9 (P:=P) sp f with⟨m,e1,e2⟩|e|⟨fn,body,e1,e2,e3,e⟩
  ·rw[e2] at h';exact hs.F0 f m e1 _ ih (DM P hs F n) args x s s1 ρ w vs fi r hg hf h' hv
  ·rw[e] at h';cases h'
  ·rw[e] at h';exact aco hP.mixed ih (DM P hs F n) e1 e2 e3 (hP.code f fn body e1 e2) fi r hg hf h' hv
end
end Go.Rn
namespace Go.Rn
open Go.RowKit
variable {r:Nat->Nat} {k:Nat} {σ:aw}
def bA(r:Nat->Nat)(x y:AV):Prop:=∀(ρ:aw) (v:Value),VR ρ x v->VR (fun k=>ρ<|r k) y v
def su(r:Nat->Nat)(x y:ae):Prop:=∀(ρ:aw) (N:Nat) (o:Obj),OR ρ N x o->OR (fun k=>ρ<|r k) N y o
def av(P:Program)(B:aI)(U:Nat)(Q:Tr AV->List Nat->Option Code->AS->Prop)(fr:AF)(s:AS):Prop:=∀(ρ:aw) (w:World) (b:Frame) (a:Act) (cs:List Frame),Fr ρ fr b a->At B ρ s fr.nt fr.tmps w a->(∀k,s.nx<=k->k<top->ρ k=none)->∃(aQ:AF) (j:Option Code) (s1:AS) (σ:aw) (a':Act) (w':World),Q aQ.tmps aQ.defers j s1/\U<=s1.nx/\(∀k,k<U->k<top->σ k=ρ k)/\(∀k x,top<=k->ρ k=some x->σ k=some x)/\(∀k,s1.nx<=k->k<top->σ k=none)/\At B σ s1 fr.nt aQ.tmps w' a'/\wy σ aQ.defers a'.defers/\cP B w w'/\(aQ.fn=fr.fn/\aQ.nt=fr.nt/\aQ.round=fr.round)/\jB aQ.todo/\Leaves j aQ.todo/\Steps P (lone (b.atR a fr.todo) cs w) (lone (b.atR a' aQ.todo) cs w')
section
variable {P:Program} {B:aI} {U:Nat} {Q:Tr AV->List Nat->Option Code->AS->Prop} {ρ:aw} {w:World} {s s1 s2:AS} {SG:aO} {fr aQ:AF} {j:Option Code}
theorem av.chunk(bU:P.follows .mixedOrders=true)(hc:fR P B SG)(hl:∀t a,SF<|SG t a)(h:eh P SG k fr s= .ok (.go aQ) s1)(h0:U<=s.nx)(H:av P B U Q aQ s1):av P B U Q fr s:=by intro ρ w b a cs bH ay hf;have ly:=(SF.eh P hl k fr).le ay.cG h;have Rx:=((SF.eh P hl k fr).cG ay.cG h).nx;obtain⟨σ,a1,w1,e1,e2,e3,e4,⟨e5,e6,e7⟩,e8,_,e9⟩:=JN (b:=b) (cs:=cs) bU hc hl k bH ay (fun k h1 _ h3=>hf k h1 h3) h;have FZ:aQ.fn=fr.fn:=e5;have iY:aQ.nt=fr.nt:=e6;have qA:aQ.round=fr.round:=e7;obtain⟨ko,j,s2,τ,a2,w2,q0,qn,q1,IG,q2,q3,q4,q5,⟨q6,q7,q8⟩,q9,RH,RI⟩:=H σ w1 b a1 cs ⟨bH.fn.trans FZ.symm,bH.kind,by rw[qA];exact bH.round.mono e1.le,e3,e8⟩ (by rw[iY];exact e2) fun k hk ht=>(e1.out k ht ak).trans<|hf k ak ht;exact⟨ko,j,s2,τ,a2,w2,q0,qn,fun k hk gw=>(q1 k hk gw).trans<|e1.out k gw ak,fun k x hk hx=>IG k x hk<|e1.le _ _ hx,q2,by rw[←iY];exact q3,q4,e4.trans q5,⟨q6.trans FZ,q7.trans iY,q8.trans qA⟩,q9,RH,Steps.trans e9 RI⟩
theorem av.leave(bU:P.follows .mixedOrders=true)(hc:fR P B SG)(hl:∀t a,SF<|SG t a)(h:eh P SG k fr s= .ok (.leave aQ j) s1)(h0:U<=s.nx)(hq:Q aQ.tmps aQ.defers j s1):av P B U Q fr s:=by intro ρ w b a cs bH ay hf;have ly:=(SF.eh P hl k fr).le ay.cG h;have Rx:=((SF.eh P hl k fr).cG ay.cG h).nx;obtain⟨σ,a1,w1,e1,e2,e3,e4,⟨e5,e6,e7⟩,e8,e10,e9⟩:=JN (b:=b) (cs:=cs) bU hc hl k bH ay (fun k h1 _ h3=>hf k h1 h3) h;exact⟨aQ,j,s1,σ,a1,w1,hq,Nat.le_trans h0 ly,fun k hk gw=>e1.out k gw ak,fun k x _ hx=>e1.le _ _ hx,fun k hk ht=>(e1.out k ht ak).trans<|hf k ak ht,e2,e3,e4,⟨e5,e6,e7⟩,e8,e10,e9⟩
abbrev lN:=List<|Nat×Nat×List AV
def Marks(fz:lN)(ρ fA:aw):Prop:=ρ.le fA/\(∀k,k<top->fA k=ρ k)/\∀p∈fz,∀b N,ρ p.1=some (b,N)->fA (hn p.2.1 b 0)≠none
open Classical in
noncomputable def marks(fz:lN)(ρ:aw):aw:=fun k=>if ρ k=none/\∃p∈fz,∃b N,ρ p.1=some (b,N)/\k=hn p.2.1 b 0 then some (0,0) else ρ k
theorem UQ(fz:lN)(ρ:aw):Marks fz ρ<|marks fz ρ:=by
 refine⟨fun k x e=>?_,fun k hk=>?_,fun p hp b N e=>?_⟩
 ·unfold marks;rw[if_neg (fun q=>by rw[e] at q;cases q.1)];exact e
 ·unfold marks;rw[if_neg (fun⟨_,p,_,b,N,_,q⟩=>by have:=gg p.2.1 b 0;omega)]
 ·unfold marks;by_cases q:ρ (hn p.2.1 b 0)=none
  ·rw[if_pos ⟨q,p,hp,b,N,e,rfl⟩];exact fun h=>by cases h
  ·rw[if_neg fun z=>q z.1];exact q
theorem Ub{fz:lN}{ρ:aw}(h:marks fz ρ k≠none):ρ k≠none\/∃p∈fz,∃b N,ρ p.1=some (b,N)/\k=hn p.2.1 b 0:=by
 unfold marks at h;split at h
 ·rename_i q;exact .inr q.2
 ·exact .inl h
def lJ(fz:lN)(r:Nat->Nat)(x y:AV):Prop:=∀(ρ fA:aw) (v:Value),Marks fz ρ fA->VR ρ x v->VR (fun k=>fA<|r k) y v
def fI(fz:lN)(r:Nat->Nat)(x y:ae):Prop:=∀(ρ fA:aw) (N:Nat) (o:Obj),Marks fz ρ fA->OR ρ N x o->OR (fun k=>fA<|r k) N y o
theorem bA.z{fz:lN}{x y:AV}(h:bA r x y):lJ fz r x y:=fun ρ fA v m hv=>h fA v<|VR.mono m.1 _ _ hv
theorem su.z{fz:lN}{x y:ae}(h:su r x y):fI fz r x y:=fun ρ fA N o m hv=>h fA N o<|hv.mono m.1
def Xs(F:Nat->Option (List AV))(h:Tr ae)(p:Nat×Nat×List AV):Prop:=p.1<top/\F p.2.1=some p.2.2/\∃N t z,h.get p.1=some (.cells N t z)/\∀i x,p.2.2[i]? =some x->i<N/\cellAt t z i=some x/\x.cj=true/\∀ρ v,VR ρ x v->VR (gq ρ) x v
def yD(l:List<|AV×AV):Prop:=∀p∈l,∃a b,p=(.int .i64 a,.int .i64 b)
def Xt(r:Nat->Nat)(h h2:Tr ae)(n:Nat)(o2:ae):Prop:=o2.l7=true\/(r n=n/\h.get n=some o2/\match o2 with
 | .jQ=>True
 | .iter m es _ left cur=>r m=m/\h2.get m=some .jQ/\yD es/\yD left/\∀x,cur=some x->yD [x]
 |_=>False)
theorem PJ{ρ:aw}{l:List<|AV×AV}(hl:yD l){p:AV×AV}(hp:p∈l){a b:Value}(h1:VR ρ p.1 a)(h2:VR ρ p.2 b):VR σ p.1 a/\VR σ p.2 b:=by obtain⟨x,y,rfl⟩:=hl p hp;simp only[VR] at h1 h2 ⊢;exact⟨h1,h2⟩
theorem VL{ρ σ:aw}:∀{l:List<|AV×AV} {es:List MapEntry} {i:Nat},yD l->jY ρ l es i->jY σ l es i
 |[],_,_,_,k=>k
 |x::l,_,i,hl,k=>by obtain⟨e,es,r,a,b,c,d⟩:=k;obtain⟨a',b'⟩:=PJ hl List.mem_cons_self a b;exact⟨e,es,r,a',b',c,VL (fun p hp=>hl p<|List.mem_cons_of_mem _ hp) d⟩
theorem Pb{ρ σ:aw}:∀{l:List<|AV×AV} {es:List MapEntry},yD l->dX ρ l es->dX σ l es
 |[],_,_,k=>k
 |x::l,_,hl,k=>by obtain⟨e,es,r,a,b,d⟩:=k;obtain⟨a',b'⟩:=PJ hl List.mem_cons_self a b;exact⟨e,es,r,a',b',Pb (fun p hp=>hl p<|List.mem_cons_of_mem _ hp) d⟩
theorem acp{ρ:aw}{w:World}{n m:Nat}{es left:List<|AV×AV}{ex:Bool}{cur:Option<|AV×AV}(k:nu ρ w n m es ex left cur)(e1:σ n=ρ n)(e2:σ m=ρ m)(q1:yD es)(q2:yD left)(q3:∀x,cur=some x->yD [x]):nu σ w n m es ex left cur:=by
 obtain⟨b,N,bm,M,l,bg,seen,h1,h2,h3,h4,h5,h6,h7,⟨l',h8,h8'⟩,h9⟩:=k;refine⟨b,N,bm,M,l,bg,seen,e1.trans h1,e2.trans h2,h3,h4,h5,fun e=>⟨(h6 e).1,VL q1 (h6 e).2⟩,fun e=>⟨(h7 e).1,?_⟩,⟨l',h8,Pb q2 h8'⟩,?_⟩
 ·obtain⟨l2,a,b⟩:=(h7 e).2;exact⟨l2,a,Pb q1 b⟩
 ·cases cur with
  |none=>exact h9
  |some x=>obtain⟨e,a,b,c,d⟩:=h9;obtain⟨c',d'⟩:=PJ (q3 x rfl) List.mem_cons_self c d;exact⟨e,a,b,c',d'⟩
theorem Rel.ajT{B:aI}{ρ:aw}{h h2:Tr ae}{w:World}(fz:lN)(R:Rel B ρ h w)(Db:∀k,top<=k->r k=k)(hz:∀p∈fz,Xs B.F h p)(hh:∀n o2,n<top->h2.get n=some o2->r n<top/\Xt r h h2 n o2/\∃o1,h.get (r n)=some o1/\fm o1 o2/\fI fz r o1 o2)(yo:∀p∈fz,∀n o2,n<top->h2.get n=some o2->r n≠p.1)(Fk:∀n m o p,n<top->m<top->h2.get n=some o->h2.get m=some p->r n=r m->n=m):Rel B (fun k=>marks fz ρ<|r k) h2 w:=by
 have hm:=UQ fz ρ;refine⟨fun n o hn hg=>?_,fun n m o p b N M hn eF hg lD da e1 e2=>?_,fun n m es ex left cur hn hg=>?_,R.size,fun i j m es ex left cur hJ iW iK iL hi wR hg lD=>?_,fun n b sh e=>?_,?_⟩
 ·obtain⟨a1,_,o1,a3,a4,a5⟩:=hh n o hn hg;obtain⟨b,N,o',b1,b2,b3,b4⟩:=R.is (r n) o1 a1 a3;exact⟨b,N,o',(hm.2.1 _ a1).trans b1,b2,a5 ρ _ N o' hm b3,fun q=>b4<|a4.1 q⟩
 ·obtain⟨a1,_,o1,a3,a4,_⟩:=hh n o hn hg;obtain⟨c1,_,p1,c3,c4,_⟩:=hh m p eF lD;have e1:marks fz ρ (r n)=some (b,N):=e1;have e2:marks fz ρ (r m)=some (b,M):=e2;rw[hm.2.1 _ a1] at e1;rw[hm.2.1 _ c1] at e2;exact Fk n m o p hn eF hg lD<|R.one (r n) (r m) o1 p1 b N M a1 c1 a3 c3 (da.imp a4.1 c4.1) e1 e2
 ·rcases(hh n _ hn hg).2.1 with q|⟨q1,q2,q3,q4,q5,q6,q7⟩
  ·simp[ae.l7] at q
  ·obtain⟨i1,i2,i3⟩:=R.iter n m es ex left cur hn q2;exact⟨i1,q4,acp i3 (by show marks fz ρ (r n)=_;rw[q1];exact hm.2.1 n hn) (by show marks fz ρ (r m)=_;rw[q3];exact hm.2.1 m i1) q5 q6 q7⟩
 ·rcases(hh i _ hi hg).2.1 with q|⟨_,q2,_⟩
  ·simp[ae.l7] at q
  ·rcases(hh j _ wR lD).2.1 with q'|⟨_,RK,_⟩
   ·simp[ae.l7] at q'
   ·exact R.lone i j m es ex left cur hJ iW iK iL hi wR q2 RK
 ·have e:marks fz ρ (r<|hn n b sh)≠none:=e;rw[Db _<|gg _ _ _] at e;have hle:(gq ρ).le<|gq fun k=>marks fz ρ<|r k:=by
   intro k x e;unfold gq at e ⊢;split at e
   ·rename_i q;rw[if_pos q];show marks fz ρ (r k)=some x;rw[Db k q];exact hm.1 _ _ e
   ·cases e
  rcases Ub e with e|⟨p,hp,b',N,e1,e2⟩
  ·obtain⟨g0,l,c,e',fr,g1,g3,g4,g5⟩:=R.fz n b sh e;refine⟨g0,l,c,e',fr,g1,g3,fun m o N eF hg cH hr=>?_,fun i x hx=>by obtain⟨v,k1,k2,k3⟩:=g5 i x hx;exact⟨v,k1,VR.mono hle _ _ k2,k3⟩⟩;obtain⟨a1,_,o1,a3,a4,_⟩:=hh m o eF hg;exact g4 (r m) o1 N a1 a3 (a4.1 cH) (by have hr:marks fz ρ (r m)=_:=hr;rw[hm.2.1 _ a1] at hr;exact hr)
  ·obtain⟨rfl,rfl,rfl⟩:=Ks e2;obtain⟨z1,z2,N0,t,z,z3,z4⟩:=hz p hp;obtain⟨b1,N1,o',k1,k2,k3,k4⟩:=R.is p.1 _ z1 z3;rw[e1] at k1;cases k1;obtain⟨c,et,rfl,_,_,row⟩:=k3;refine⟨.inr<|k4 rfl,p.2.2,c,et,_,z2,k2,fun m o M eF hg cH hr=>?_,fun i x hx=>?_⟩
   ·obtain⟨a1,_,o1,a3,a4,_⟩:=hh m o eF hg;have hr:marks fz ρ (r m)=_:=hr;rw[hm.2.1 _ a1] at hr;exact yo p hp m o eF hg<|R.one (r m) p.1 o1 _ _ _ _ a1 z1 a3 z3 (.inl<|a4.1 cH) hr e1
   ·obtain⟨i1,i2,i3,i4⟩:=z4 i x hx;obtain⟨x',v,j1,j2,j3,j4⟩:=row i i1;rw[i2] at j1;cases j1;exact⟨v,by rw[Nat.zero_add];exact j3,VR.mono hle _ _<|i4 _ _ j4,i3⟩
 ·obtain⟨k0,H,k1,k2⟩:=R.tk;have hle:∀m x,top<=m->ρ m=some x->marks fz ρ (r m)=some x:=fun m x ju e=>by rw[Db m ju];exact hm.1 _ _ e
  have tok:∀n k v,n<top->h2.get n=some (.tok k v)->r n<top/\h.get (r n)=some (.tok k v):=fun n k v hn hg=>by obtain⟨a1,_,o1,a3,a4,_⟩:=hh n _ hn hg;rw[a4.2.1 rfl] at a3;exact⟨a1,a3⟩
  refine⟨⟨k0.1,fun n o hn hg hf=>?_⟩,fun n=>H<|r n,fun n k v hn hg=>?_,fun n m x k v k' v' hn eF g1 g2 cz=>?_⟩
  ·obtain⟨a1,_,o1,a3,a4,a5⟩:=hh n o hn hg;obtain⟨b,N,e1,e2⟩:=k0.2 (r n) o1 a1 a3<|a4.2.2 hf;exact⟨b,N,(hm.2.1 _ a1).trans e1,e2⟩
  ·obtain⟨a1,a2⟩:=tok n k v hn hg;obtain⟨b,N,c1,c2,c3,c4⟩:=k1 (r n) k v a1 a2;refine⟨b,N,(hm.2.1 _ a1).trans c1,B.mono c2 hle fun _ _=>rfl,c3,fun x hx=>?_⟩;obtain⟨d1,d2,d3,d4⟩:=c4 x hx;refine⟨d1,d2,fun m o M eF lD cH hr=>?_,fun j sh=>?_⟩
   ·obtain⟨e1,_,o1,e3,e4,_⟩:=hh m o eF lD;exact d3 (r m) o1 M e1 e3 (e4.1 cH) (by have hr:marks fz ρ (r m)=_:=hr;rw[hm.2.1 _ e1] at hr;exact hr)
   ·show marks fz ρ (r<|Rn.hn j x sh)=none;rw[Db _<|gg _ _ _];refine Classical.byContradiction fun q=>?_;rcases Ub q with q|⟨p,hp,b',N',e1,e2⟩
    ·exact q<|d4 j sh
    ·obtain⟨_,rfl,_⟩:=Ks e2;obtain⟨z1,_,N0,t,z,z3,_⟩:=hz p hp;exact d3 p.1 _ N' z1 z3 rfl e1
  ·obtain⟨a1,a2⟩:=tok n k v hn g1;obtain⟨a3,a4⟩:=tok m k' v' eF g2;exact k2 (r n) (r m) x k v k' v' a1 a3 a2 a4 fun e=>cz<|Fk n m _ _ hn eF g1 g2 e
theorem av.weaken{t2:Tr AV}(fz:lN)(r:Nat->Nat)(h0:∀k,k<U->r k=k)(h1:∀k,s2.nx<=k->k<top->s.nx<=r k/\r k<top)(Db:∀k,top<=k->r k=k)(hg:fH<=U)(hf2:bF s2)(hd:fr.defers=[])(hr:fr.round=none)(hz:∀p∈fz,Xs B.F s.h p)(ht:∀i y,t2.get i=some y->∃x,fr.tmps.get i=some x/\lJ fz r x y)(hh:∀n o2,n<top->s2.h.get n=some o2->r n<top/\Xt r s.h s2.h n o2/\∃o1,s.h.get (r n)=some o1/\fm o1 o2/\fI fz r o1 o2)(yo:∀p∈fz,∀n o2,n<top->s2.h.get n=some o2->r n≠p.1)(Fk:∀n m o p,n<top->m<top->s2.h.get n=some o->s2.h.get m=some p->r n=r m->n=m)(H:av P B U Q {fr with tmps:=t2} s2):av P B U Q fr s:=by
 intro ρ w b a cs bH ay hf;have hm:=UQ fz ρ;have nW:Hd (fun k=>marks fz ρ<|r k) fr.round b.roundOf:=by
  have:=bH.round;rw[hr] at this ⊢;cases hb:b.roundOf with
  |none=>trivial
  |some l=>rw[hb] at this;cases this
 have ahX:wy (fun k=>marks fz ρ<|r k) fr.defers a.defers:=by have:=bH.defs;rw[hd] at this ⊢;exact this
 have cZ:∀k,k<U->k<top->marks fz ρ (r k)=ρ k:=fun k hk gw=>by rw[h0 k hk];exact hm.2.1 k gw
 have ahY:gk fun k=>marks fz ρ<|r k:=fun g hZ=>by obtain⟨N,e⟩:=ay.g g hZ;exact⟨N,(cZ g (Nat.lt_of_lt_of_le hZ hg)<|Nat.lt_of_lt_of_le hZ (by unfold fH top;decide)).trans e⟩
 have y8:TR (fun k=>marks fz ρ<|r k) fr.nt t2 a.tmps:=⟨ay.tr.1,fun i y hy=>by obtain⟨x,e1,e2⟩:=ht i y hy;exact e2 ρ _ _ hm<|ay.tr.2 i x e1⟩;obtain⟨ko,j,s3,τ,a2,w2,q0,qn,q1,IG,q2,q3,q4,q5,q6,q7,q8,q9⟩:=H (fun k=>marks fz ρ<|r k) w b a cs ⟨bH.fn,bH.kind,nW,ahX,bH.ok⟩ ⟨y8,ay.rel.ajT fz Db hz hh yo Fk,ahY,ay.nt,hf2⟩ fun k hk ht=>(hm.2.1 _ (h1 k hk ht).2).trans<|hf _ (h1 k hk ht).1 (h1 k hk ht).2;exact⟨ko,j,s3,τ,a2,w2,q0,qn,fun k hk gw=>(q1 k hk gw).trans<|cZ k hk gw,fun k x hk hx=>IG k x hk (by show marks fz ρ (r k)=_;rw[Db k hk];exact hm.1 _ _ hx),q2,q3,q4,q5,q6,q7,q8,q9⟩
end
end Go.Rn
namespace Go.Rn
open Go.RowKit
variable {i:Nat} {d:Option Tmp} {v:AV} {o:Oper}
noncomputable section
def aP:List (Nat×AV)->Tr AV
 |[]=>.nil
 |p::l=>(aP l).put p.1<|some p.2
def fL:List (Nat×Option ae)->Tr ae
 |[]=>.nil
 |p::l=>(fL l).put p.1 p.2
def aj(l:List<|Nat×Option ae)(nx:Nat):AS:=⟨fL l,nx,0,[],[]⟩
def WS(P:Program)(f:FuncId):Code:=
 match P.funcs[f]? with
 |none=>.skip
 |some fn=>match fn.body with
  |none=>.skip
  |some c=>c
def aW(P:Program)(f:FuncId)(p:List Nat):Code:=tS p<|WS P f
def opsOf:Code->Array Oper
 | .region _ ops _=>ops
 |_=> #[]
def p0(P:Program)(SG:aO)(nt:Nat)(ops:Array Oper)(i n:Nat)(t:Tr AV):M<|Tr AV:=jl P SG nt ops ((ops.toList.drop i).take n) t
def yE(ops:Array Oper)(i:Nat):Option<|Op×Option Tmp×Option (Nat×Bool):=
 match ops[i]? with
 |none=>none
 |some o=>some (o.op,o.dst,o.guard)
end
section
variable {P:Program} {B:aI} {U:Nat} {Q:Tr AV->List Nat->Option Code->AS->Prop} {ρ:aw} {w:World} {s s1 s2:AS} {SG:aO} {t t1 t2:Tr AV} {ops:Array Oper} {nt:Nat}
theorem NX{l:List Oper}:jl P SG nt ops (o::l) t=(gP P SG nt ops o t).bind (jl P SG nt ops l):=rfl
theorem UR:∀{l1 l2:List Oper} {t t1:Tr AV} {s s1:AS},jl P SG nt ops l1 t s= .ok t1 s1->jl P SG nt ops (l1++l2) t s=jl P SG nt ops l2 t1 s1
 |[],l2,t,t1,s,s1,h=>by cases h;rfl
 |o::l1,l2,t,t1,s,s1,h=>by rw[NX] at h;obtain⟨t',s',h1,h2⟩:=M.aR h;show jl P SG nt ops (o::(l1++l2)) t s=_;rw[NX,M.bO h1];exact UR h2
theorem Ty{n m:Nat}(h1:p0 P SG nt ops i n t s= .ok t1 s1)(h2:p0 P SG nt ops (i+n) m t1 s1= .ok t2 s2):p0 P SG nt ops i (n+m) t s= .ok t2 s2:=by unfold p0 at h1 h2 ⊢;rw[List.take_add,UR h1,List.drop_drop];exact h2
theorem Tz(ho:ops[i]? =some o)(h:gP P SG nt ops o t s= .ok t1 s1):p0 P SG nt ops i 1 t s= .ok t1 s1:=by
 unfold p0;have:(ops.toList.drop i).take 1=[o]:=by
  have h1:ops.toList[i]? =some o:=by rw[Array.getElem?_toList];exact ho
  obtain⟨hi,e⟩:=List.getElem?_eq_some_iff.1 h1;rw[List.drop_eq_getElem_cons hi,e];rfl
 rw[this,NX,M.bO h];rfl
theorem JO{op:Op}{g:Option<|Nat×Bool}(h:yE ops i=some (op,d,g)):∃o,ops[i]? =some o/\o.op=op/\o.dst=d/\o.guard=g:=by
 unfold yE at h;split at h
 ·cases h
 ·rename_i o e;injection h with h
  injection h with h1 h
  injection h with h2 h3
  exact⟨o,e,h1,h2,h3⟩
theorem cM{op:Op}(ho:yE ops i=some (op,d,none))(h:(dP P op).val SG t s= .ok v s1)(hp:jk nt t d v=some t1):p0 P SG nt ops i 1 t s= .ok t1 s1:=by obtain⟨o,e,rfl,rfl,e3⟩:=JO ho;refine Tz e ?_;unfold gP Cl;rw[e3];show sO (dP P o.op) o.dst SG nt t s=_;unfold sO;rw[M.bO h,hp];rfl
theorem ajU{op:Op}{g:Nat×Bool}(ho:yE ops i=some (op,d,some g))(hk:tX ops t g.1=true)(hw:qL ops g t=true)(h:(dP P op).val SG t s= .ok v s1)(hp:jk nt t d v=some t1):p0 P SG nt ops i 1 t s= .ok t1 s1:=by obtain⟨o,e,rfl,rfl,e3⟩:=JO ho;refine Tz e ?_;unfold gP Cl;rw[e3];show uw ops g (dP P o.op) o.dst SG nt t s=_;unfold uw;rw[hk,hw,dA];show((dP P o.op).val SG t).bind (fun v=>lift<|jk nt t o.dst v) s=_;rw[M.bO h,hp];rfl
theorem ND:∀{l:List<|List AV} {K i:Nat} {c:List AV},(∀c∈l,c.length=K)->l[i]? =some c->(l.flatten.drop<|i*K).take K=c
 |[],_,_,_,_,h=>by simp at h
 |x::l,K,0,c,hl,h=>by simp at h;subst h;have hx:=hl x List.mem_cons_self;rw[Nat.zero_mul,List.drop_zero,List.flatten_cons,List.take_append,hx,Nat.sub_self,List.take_zero,List.append_nil, ←hx,List.take_length]
 |x::l,K,i+1,c,hl,h=>by have hx:=hl x List.mem_cons_self;rw[List.flatten_cons,List.drop_append,hx,show(i+1)*K - K=i*K by rw[Nat.add_mul,Nat.one_mul];omega,List.drop_eq_nil_of_le (by rw[hx,Nat.add_mul,Nat.one_mul];omega),List.nil_append];exact ND (fun c hc=>hl c<|List.mem_cons_of_mem _ hc) (by simpa using h)
end
end Go.Rn
namespace Go.Rn
open Go.RowKit
section
variable {P:Program} {s s1:AS} {SG:aO} {t:Tr AV}
theorem aeN{op:BinOp}{ty yt:TypeId}{x y:Operand}{k:IntKind}{a b:Int}{r:Bool}(hx:aK t x=some (.int k a))(hy:aK t y=some (.int k b))(hs:zL op=false)(hg:J1 P op ty x y (.int k a) (.int k b)=true)(hr:EH op k a b=some (.bool r)):
 (dP P<|.binOp op ty x y yt).val SG t s= .ok (.bool r) s:=by
 show uD P op ty x y SG t s=_;unfold uD;rw[hx,hy,bY,bY,hg,dA];have:BX P op ty (.int k a) (.int k b)=some (.bool r):=by unfold BX;simp only[hs,decide_true];exact hr
 rw[this];rfl
end
end Go.Rn
namespace Go.Rn
open Go.RowKit
section
variable {P:Program} {B:aI} {U:Nat} {Q:Tr AV->List Nat->Option Code->AS->Prop} {s s1 s2:AS} {SG:aO} {t t1 t2:Tr AV} {ops:Array Oper} {nt:Nat}
theorem aeO{op:BinOp}{ty yt:TypeId}{x y:Operand}{k:IntKind}{a b:Int}{r:AV}(hx:aK t x=some (.int k a))(hy:aK t y=some (.int k b))(hs:zL op=false)(hg:J1 P op ty x y (.int k a) (.int k b)=true)(hr:EH op k a b=some r):
 (dP P<|.binOp op ty x y yt).val SG t s= .ok r s:=by
 show uD P op ty x y SG t s=_;unfold uD;rw[hx,hy,bY,bY,hg,dA];have:BX P op ty (.int k a) (.int k b)=some r:=by unfold BX;simp only[hs,decide_true];exact hr
 rw[this];rfl
noncomputable def uE(P:Program)(SG:aO)(nt:Nat)(ops:Array Oper)(i n:Nat)(t:Tr AV):M<|Tr AV×List dD:=nz P SG nt ops ((ops.toList.drop i).take n) i t
theorem Uc:∀{l1 l2:List Oper} {i:Nat} {t t1 t2:Tr AV} {m1 m2:List dD} {s s1 s2:AS},nz P SG nt ops l1 i t s= .ok (t1,m1) s1->nz P SG nt ops l2 (i+l1.length) t1 s1= .ok (t2,m2) s2->nz P SG nt ops (l1++l2) i t s= .ok (t2,m1++m2) s2
 |[],l2,i,t,t1,t2,m1,m2,s,s1,s2,h,k=>by cases h;exact k
 |o::l1,l2,i,t,t1,t2,m1,m2,s,s1,s2,h,k=>by
  have h':((alone i<|gP P SG nt ops o t).bind fun x=>(nz P SG nt ops l1 (i+1) x.1).bind fun y=>M.pure (y.1,x.2::y.2)) s= .ok (t1,m1) s1:=h;obtain⟨x,sx,e1,e2⟩:=M.aR h';obtain⟨y,sy,e3,e4⟩:=M.aR e2;obtain⟨e5,rfl⟩:=bI e4;injection e5 with e6 e7
  subst e6;subst e7;have:=Uc (i:=i+1) e3 (by rw[show i+1+l1.length=i+(o::l1).length by simp;omega];exact k);show((alone i<|gP P SG nt ops o t).bind fun x=>(nz P SG nt ops (l1++l2) (i+1) x.1).bind fun y=>M.pure (y.1,x.2::y.2)) s=_;rw[M.bO e1,M.bO this];rfl
theorem US{i n m N:Nat}{m1 m2:List dD}(hN:ops.size=N)(hi:i+n<=N)(h1:uE P SG nt ops i n t s= .ok (t1,m1) s1)(h2:uE P SG nt ops (i+n) m t1 s1= .ok (t2,m2) s2):uE P SG nt ops i (n+m) t s= .ok (t2,m1++m2) s2:=by unfold uE at h1 h2 ⊢;rw[List.take_add,List.drop_drop];refine Uc h1 ?_;rw[List.length_take,List.length_drop,Array.length_toList,hN,Nat.min_eq_left ak];exact h2
theorem GP:∀{l:List<|Nat×AV} {i:Nat} {y:AV},(∀p∈l,p.1<top)->(aP l).get i=some y->(i,y)∈l
 |[],i,y,_,h=>by have:(Tr.nil:Tr AV).get i=some y:=h;rw[Tr.get_nil] at this;cases this
 |p::l,i,y,hl,h=>by
  have h':((aP l).put p.1<|some p.2).get i=some y:=h;rw[Tr.lX _ _ _ _<|hl p List.mem_cons_self] at h';by_cases e:i=p.1
  ·rw[if_pos e] at h';injection h' with h';subst h';subst e;exact List.mem_cons_self
  ·rw[if_neg e] at h';exact List.mem_cons_of_mem _<|GP (fun q hq=>hl q<|List.mem_cons_of_mem _ hq) h'
theorem xF:∀{l:List<|Nat×Option ae} {i:Nat} {y:ae},(∀p∈l,p.1<top)->(fL l).get i=some y->(i,some y)∈l
 |[],i,y,_,h=>by have:(Tr.nil:Tr ae).get i=some y:=h;rw[Tr.get_nil] at this;cases this
 |p::l,i,y,hl,h=>by
  have h':((fL l).put p.1 p.2).get i=some y:=h;rw[Tr.lX _ _ _ _<|hl p List.mem_cons_self] at h';by_cases e:i=p.1
  ·rw[if_pos e] at h';have:p=(i,some y):=by rw[e, ←h']
   rw[←this];exact List.mem_cons_self
  ·rw[if_neg e] at h';exact List.mem_cons_of_mem _<|xF (fun q hq=>hl q<|List.mem_cons_of_mem _ hq) h'
theorem bA.same(x:AV):bA (fun k=>k) x x:=fun _ _ h=>h
theorem su.same(x:ae):su (fun k=>k) x x:=fun _ _ _ h=>h
def yp(t:Tr AV):List (Nat×AV)->Prop
 |[]=>True
 |p::l=>t.get p.1=some p.2/\yp t l
def yF(h:Tr ae):List (Nat×Option ae)->Prop
 |[]=>True
 |p::l=>(h.get p.1=p.2/\∀o,p.2=some o->o.l7=true)/\yF h l
theorem yp.mem{t:Tr AV}:∀{l:List<|Nat×AV},yp t l->∀p∈l,t.get p.1=some p.2
 |[],_,p,hp=>by cases hp
 |q::l,h,p,hp=>by
  rcases List.mem_cons.1 hp with rfl|hp
  ·exact h.1
  ·exact yp.mem h.2 p hp
theorem yF.mem{h:Tr ae}:∀{l:List<|Nat×Option ae},yF h l->∀p∈l,h.get p.1=p.2/\∀o,p.2=some o->o.l7=true
 |[],_,p,hp=>by cases hp
 |q::l,k,p,hp=>by
  rcases List.mem_cons.1 hp with rfl|hp
  ·exact k.1
  ·exact yF.mem k.2 p hp
def qj{α:Type}(n:Nat):List (Nat×α)->Bool
 |[]=>true
 |p::l=>Nat.blt p.1 n&&qj n l
theorem xG{α:Type}{n:Nat}:∀{l:List<|Nat×α},qj n l=true->∀p∈l,p.1<n
 |[],_,p,hp=>by cases hp
 |q::l,h,p,hp=>by
  obtain⟨h1,h2⟩:=and_true.1 h;rcases List.mem_cons.1 hp with rfl|hp
  ·exact(blt_eq _ _).mp h1
  ·exact xG h2 p hp
theorem av.less{f:FuncId}{K:List Item}{l:List<|Nat×AV}{o:List<|Nat×Option ae}{nx:Nat}(hl:qj top l=true)(ho:qj top o=true)(hn:(Nat.ble s.nx nx&&Nat.ble nx top)=true)(hg:fH<=U)(ht:yp t l)(hh:yF s.h o)(H:av P B U Q ⟨f,aP l,nt,K,[],none⟩<|aj o nx):av P B U Q ⟨f,t,nt,K,[],none⟩ s:=by
 obtain⟨C0,uT⟩:=and_true.1 hn;have C0:=aL.1 C0;have uT:=aL.1 uT;refine av.weaken (s2:=aj o nx) (t2:=aP l) [] (fun k=>k) (fun _ _=>rfl) (fun k hk ht=>⟨Nat.le_trans C0 hk,ht⟩) (fun _ _=>rfl) hg ⟨Nat.zero_le _,uT⟩ rfl rfl (fun _ h=>by cases h) (fun i y hy=>?_) (fun n o2 hn hg=>?_) (fun _ h=>by cases h) (fun n m _ _ _ _ _ _ e=>e) H
 ·have:=GP (fun p hp=>xG hl p hp) hy;exact⟨y,ht.mem _ this,(bA.same y).z⟩
 ·have:=xF (fun p hp=>xG ho p hp) hg;obtain⟨h1,h2⟩:=hh.mem _ this;exact⟨hn,.inl<|h2 o2 rfl,o2,h1,fm.refl _,(su.same o2).z⟩
end
end Go.Rn
namespace Go.Rn
open Go.RowKit
section
variable {P:Program} {s s1:AS} {SG:aO} {t:Tr AV}
theorem Nu{l z:List AV}(hl:l.length<=top):∀(k off:Nat),off+k<=l.length->l6 (Tr.fill l 0 .nil) z k off=some ((l.drop off).take k)
 |0,off,_=>by simp[l6]
 |k+1,off,h=>by
  have cF:off<l.length:=by omega
  have hc:cellAt (Tr.fill l 0 .nil) z off=some l[off]:=by unfold cellAt;rw[Tr.xA _ _ _ _ ak,if_pos ak,Nat.sub_zero,List.getElem?_eq_getElem cF]
  simp only[l6,hc,Nu hl k (off+1) ak];rw[List.drop_eq_getElem_cons cF,List.take_succ_cons]
noncomputable def aJ{α:Type}(enc:α->List AV)(l:List α):ae:=.cells (l.map enc).flatten.length (Tr.fill (l.map enc).flatten 0 .nil) []
theorem aeP{o:ae}(ht:s.nx<top):gC o s= .ok s.nx {s with h:=s.h.put s.nx<|some o,nx:=s.nx+1}:=by
 obtain⟨hh,nx,mark,rd,wr⟩:=s;have e1:Nat.blt nx top=true:=by rw[blt_eq];exact ht
 show @Bool.rec (fun _=>R Nat) .bad (forced nx fun m=>.ok m ⟨hh.put m<|some o,m+1,mark,rd,wr⟩) (Nat.blt nx top)=_;rw[e1,zE]
theorem JD{l:List AV}(hl:l.length<=top)(h1:l.all AV.cj=true)(ht:s.nx<top):newRow l s= .ok s.nx {s with h:=s.h.put s.nx<|some<|.cells l.length (Tr.fill l 0 .nil) [],nx:=s.nx+1}:=by unfold newRow;rw[show(and (Nat.ble l.length top)<|l.all AV.cj)=true from and_true.2 ⟨aL.2 hl,h1⟩,dA];exact aeP ht
end
end Go.Rn
namespace Go.Rn
open Go.RowKit
end Go.Rn
namespace Go.Rn
open Go.RowKit
noncomputable section
def di(m:List<|Int×Int):List<|AV×AV:=m.map fun p=>(.int .i64 p.1,.int .i64 p.2)
def HW(m:List<|Int×Int):ae:=.map (di m) m.length
end
def getM:List (Int×Int)->Int->Int
 |[],_=>0
 |p::l,k=>if p.1=k then p.2 else getM l k
def gD:List (Int×Int)->Int->Int->List (Int×Int)
 |[],k,v=>[(k,v)]
 |p::l,k,v=>if p.1=k then(k,v)::l else p::gD l k v
section
variable {P:Program} {s s1:AS} {SG:aO} {t:Tr AV}
theorem UT(a b:Int):sameKey (.int .i64 a) (.int .i64 b)=some (a == b):=rfl
theorem UU(k:Int):∀(m:List<|Int×Int) (i:Nat),(lf (.int .i64 k) (di m) i=some none/\getM m k=0/\∀v,gD m k v=m++[(k,v)])\/
 ∃j y,lf (.int .i64 k) (di m) i=some (some (i+j,.int .i64 y))/\getM m k=y/\m[j]? =some (k,y)/\∀v,putAt (di m) j (.int .i64 k) (.int .i64 v)=di (gD m k v)/\(gD m k v).length=m.length
 |[],i=>.inl ⟨rfl,rfl,fun _=>rfl⟩
 |p::l,i=>by
  have hf:lf (.int .i64 k) (di<|p::l) i=(match some (k == p.1) with|none=>none|some true=>some (some (i,.int .i64 p.2))|some false=>lf (.int .i64 k) (di l)<|i+1):=rfl;by_cases e:p.1=k
  ·refine .inr ⟨0,p.2,?_,?_,?_,fun v=>⟨?_,?_⟩⟩
   ·rw[hf,show(k == p.1)=true by simp[e]];rfl
   ·simp[getM,e]
   ·simp[←e]
   ·simp[gD,e,di,putAt]
   ·simp[gD,e]
  ·have cz:(k == p.1)=false:=by simp;exact fun q=>e q.symm
   rcases UU k l (i+1) with⟨h1,h2,h3⟩|⟨j,y,h1,h2,h3,h4⟩
   ·refine .inl ⟨?_,?_,fun v=>?_⟩
    ·rw[hf,cz];exact h1
    ·simp[getM,e,h2]
    ·simp[gD,e,h3 v]
   ·refine .inr ⟨j+1,y,?_,?_,?_,fun v=>⟨?_,?_⟩⟩
    ·rw[hf,cz];show lf _ _ _=_;rw[h1];congr 3;omega
    ·simp[getM,e,h2]
    ·simpa using h3
    ·have:=(h4 v).1;simp only[gD,e,if_false];show(_:AV×AV)::putAt (di l) j _ _=_::di (gD l k v);rw[this]
    ·simp[gD,e,(h4 v).2]
end
end Go.Rn
namespace Go.Rn
open Go.RowKit
section
variable {r:Nat->Nat}
theorem bA.int(k:IntKind)(n:Int):bA r (.int k n)<|.int k n:=fun _ _ h=>h
theorem bA.bool(b:Bool):bA r (.bool b)<|.bool b:=fun _ _ h=>h
theorem bA.adw:bA r (.slice none 0<|.known 0)<|.slice none 0<|.known 0:=fun _ _ h=>h
theorem bA.ptr{n m o:Nat}(e:r m=n):bA r (.ptr<|some (n,o))<|.ptr<|some (m,o):=by intro ρ v h;simp only[VR] at h ⊢;rw[e];exact h
theorem bA.map{n m:Nat}(e:r m=n):bA r (.map<|some n)<|.map<|some m:=by intro ρ v h;simp only[VR] at h ⊢;rw[e];exact h
theorem bA.slice{n m o len:Nat}{c:cR}(e:r m=n):bA r (.slice (some (n,o)) len c)<|.slice (some (m,o)) len c:=by intro ρ v h;cases c<;>simp only[VR] at h ⊢ <;>rw[e]<;>exact h
theorem bA.ab{n o len:Nat}(e:r n=n)(hr:∀k,top<=k->r k=k):bA r (.ab n o len)<|.ab n o len:=by intro ρ v h;simp only[VR] at h ⊢;refine h.imp id fun⟨b,sh,c,h1,h2⟩=>⟨b,sh,c,h1.imp (fun q=>⟨q.1,(congrArg ρ e).trans q.2⟩) fun q=>⟨q.1,fun z=>q.2<|(congrArg ρ<|hr _<|gg _ _ _).symm.trans z⟩,h2⟩
def AV.flat:AV->Bool
 | .bool _| .int _ _| .str _| .LI _=>true
 | .ptr none| .map none| .nilFunc| .nilIface=>true
 | .slice none _ (.known _)=>true
 |_=>false
theorem bA.flat{x:AV}(h:x.flat=true):bA r x x:=by
 intro ρ v k;cases x<;>first|exact k|skip
 case slice a len cap=>cases a with
  |some _=>cases h
  |none=>cases cap with
   |known c=>simp only[VR] at k ⊢;exact k
   |ar _ _=>cases h
   |lost=>cases h
 all_goals first|(cases h;done)|skip
 all_goals
  rename_i a;cases a with
  |none=>exact k
  |some _=>cases h
def Lp(r:Nat->Nat):List AV->List AV->Prop
 |[],[]=>True
 |x::l,y::m=>bA r x y/\Lp r l m
 |_,_=>False
def ahZ(r:Nat->Nat)(h:Tr ae):List (Nat×ae)->Prop
 |[]=>True
 |p::l=>(p.2.plain=true/\∃x,h.get (r p.1)=some x/\(x.dv=p.2.dv/\x.m7=p.2.m7)/\su r x p.2)/\ahZ r h l
def bQ:List (Nat×ae)->List (Nat×Option ae)
 |[]=>[]
 |p::l=>(p.1,some p.2)::bQ l
theorem NY:∀{l:List<|Nat×ae} {i:Nat} {y:ae},(i,some y)∈bQ l->(i,y)∈l
 |p::l,i,y,h=>by
  rcases List.mem_cons.1 h with h|h
  ·injection h with h1 h2
   injection h2 with h2
   have:p=(i,y):=by rw[h1,h2]
   rw[←this];exact List.mem_cons_self
  ·exact List.mem_cons_of_mem _<|NY h
variable {P:Program} {B:aI} {Q:Tr AV->List Nat->Option Code->AS->Prop} {s:AS} {t:Tr AV} {nt:Nat}
end
end Go.Rn
namespace Go.Rn
end Go.Rn
namespace Go.Rn
open Go.RowKit
noncomputable section
end
section
variable {P:Program} {s s1:AS} {SG:aO} {t:Tr AV}
end
end Go.Rn
namespace Go.Rn
open Go.RowKit
noncomputable section
def Fin(P:Program)(rs:List ResultVar)(R:AV->AS->Prop):Tr AV->List Nat->Option Code->AS->Prop:=fun t d j s=>∃x s3,finish P rs ⟨0,t,0,[],d,none⟩ j s= .ok x s3/\R x s3
end
section
variable {P:Program} {B:aI} {ρ:aw} {w:World} {s s1:AS} {SG:aO}
theorem Gv(rs:List ResultVar)(fr:AF)(j:Option Code):finish P rs fr j=finish P rs ⟨0,fr.tmps,0,[],fr.defers,none⟩ j:=rfl
theorem av.calls(hP:bC P){g:FuncId}{fn:Func}{body:Code}{args:List AV}{vs:Array Value}{R:AV->AS->Prop}(ch:P.funcs[g]? =some fn)(cw:fn.body=some body)(pn:max fn.ntmps args.length<=top)(H:av P B s.nx (Fin P fn.results.toList R) ⟨g,eg args,max fn.ntmps args.length,[.code body],[],none⟩ s)(fi:bF s)(r:Rel B ρ s.h w)(hg:gk ρ)(hf:∀k,s.nx<=k->k<top->ρ k=none)(hv:az ρ args vs.toList):
 Calls P g vs w fun e w'=>∃v x s3,e= .returned v/\R x s3/\s.nx<=s3.nx/\bF s3/\ki B ρ s s3 w x v w':=by
 intro cs;let b:Frame:={(default:Frame) with fn:=g,kind:=.normal,roundOf:=none};let a:Act:={tmps:=vs++Array.replicate (fn.ntmps - vs.size) undef,defers:=[]};have ya:Frame.enter P g vs .normal=b.atR a [.code body]:=by simp[Frame.enter,Frame.atR,ch,cw,b,a]
 have bH:Fr ρ ⟨g,eg args,max fn.ntmps args.length,[.code body],[],none⟩ b a:=⟨rfl,rfl,trivial,rfl,.cons (hP.code g fn body ch cw) .nil⟩;have ay:At B ρ s (max fn.ntmps args.length) (eg args) w a:=⟨Jf hv _ pn,r,hg,pn,fi⟩;obtain⟨fr,j,s2,σ,a',w',⟨x,s3,qi,hR⟩,en,e0,IH,e1,e2,e3,e4,e5,e6,e7,e8⟩:=H ρ w b a cs bH ay hf;have Qk:finish P fn.results.toList fr j s2= .ok x s3:=by rw[Gv];exact qi
 have A4:bF s2:=e2.cG;have ajV:Ext s.nx s2.nx ρ σ:=by
  refine⟨fun k y hk=>?_,fun k gw hk=>?_⟩
  ·by_cases qt:k<top
   ·by_cases q:s.nx<=k
    ·rw[hf k q qt] at hk;cases hk
    ·rw[e0 k ak qt];exact hk
   ·exact IH k y ak hk
  ·by_cases q:k<s.nx
   ·exact e0 k q gw
   ·rw[e1 k ak gw,hf k ak gw]
 obtain⟨hj,u2,s4,rs,h7,h9,hx⟩:=NB Qk;have pB:bF s4:=(SF.rU _).cG A4 h7;have qA:Leaves j fr.todo:=e7;obtain⟨d1,d2,w2,d3,d4,d5⟩:=Je (P:=P) (fr:=b) (cs:=cs) A4 e2.rel e3 h7;obtain⟨f1,f2,us,f3,f4⟩:=Jb (P:=P) (w:=w2) e2.tr pB d3 h9;have jv:bF s3:=(SF.tM P fr.tmps _).cG pB h9;have HV:Steps P (lone (b.atR a' fr.todo) cs w')<|lone {b.atR a' fr.todo with mode:=.returning} cs w':=by
  rcases hj with rfl|rfl
  ·have e:fr.todo=[]:=qA;rw[e];exact .one<|stepR_end rfl
  ·obtain⟨k,e⟩:=qA;rw[e];exact .one<|stepR_ret rfl
 have yo:=d5 {b.atR a' fr.todo with mode:=.returning} cs jJ rfl;have kD:(results fn a'.tmps).run P w2= .ok (oU us) w2:=by
  unfold results;rw[Array.mapM_eq_mapM_toList];simp only[Sem.run_bind,map_eq_pure_bind,Sem.run_pure];refine Eq.trans (congrArg (fun r:Result (List Value)=>(r.andThen fun a w'=>Result.ok a.toArray w').andThen fun a w'=>Result.ok (if h:a.size=1 then a[0] else Value.tuple a) w') f3) ?_;have:∀l:List Value,(Result.ok (if h:l.toArray.size=1 then l.toArray[0] else Value.tuple l.toArray) w2:Result Value)= .ok (oU l) w2:=by
   intro l
   match l with
   |[]=>rfl
   |[v]=>rfl
   |v::v2::l=>simp[oU]
  exact this us
 have Ze:s3.nx=s2.nx:=by rw[f2,d1]
 have hle:s.nx<=s3.nx:=by rw[Ze];exact en
 refine⟨.returned<|oU us,w2,{b.atR a' fr.todo with mode:=.returning,defers:=[]},⟨_,x,s3,rfl,hR,hle,jv,?_⟩,?_,rfl,?_⟩
 ·exact⟨σ,by rw[Ze];exact ajV,by rw[hx];exact NV f4,by rw[f1];exact d3,e4.trans d4⟩
 ·rw[ya];exact Steps.trans e8<|Steps.trans HV yo
 ·exact⟨rfl,rfl,rfl,fn,ch,kD⟩
end
end Go.Rn
namespace Go.Rn
variable {P:Program} {SG:aO} {nt:Nat} {ops:Array Oper} {t t1:Tr AV}
theorem tI{P:Program}{w:World}{f:FuncId}{fn:Func}{body:Code}{vs:Array Value}(ch:P.funcs[f]? =some fn)(cw:fn.body=some body)(dE:(fn.name == "runtime.NumGoroutine")=false):(callFunc f vs).run P w= .ok (.enter f vs) w:=by
 have HA:(program).run P w= .ok P w:=rfl;have hn:fn.name≠ "runtime.NumGoroutine" :=by simpa using dE
 simp only[callFunc,Sem.run_bind,HA,Result.andThen_ok,ch,dE,cw];simp
theorem tJ{K:Nat}:∀{l:List<|List AV},(∀c∈l,c.length=K)->l.flatten.length=l.length*K
 |[],_=>by simp
 |c::l,h=>by rw[List.flatten_cons,List.length_append,h c List.mem_cons_self,tJ fun c' h'=>h c'<|List.mem_cons_of_mem _ h',List.length_cons,Nat.add_mul,Nat.one_mul];omega
theorem agw{s:AS}{ty yt:TypeId}{x y:Operand}{k:IntKind}{a b c:Int}(hx:aK t x=some (.int k a))(hy:aK t y=some (.int k b))(h0:b≠0)(h:a.tmod b=c):(dP P<|.binOp .rem ty x y yt).val SG t s= .ok (.int k c) s:=aeO hx hy rfl rfl (by subst h;simp only[EH,decide_eq_false h0])
end Go.Rn
namespace Go.Rn
open Go.RowKit
section
variable {P:Program} {SG:aO} {nt:Nat} {ops:Array Oper} {t t1:Tr AV}
end
noncomputable section
end
end Go.Rn
namespace Go.Rn
open Go.RowKit
variable {t1:Tr AV} {g:Option<|Nat×Bool} {d:Option Tmp} {v:AV} {id:Nat} {c:Code}
noncomputable section
instance:Inhabited<|Tr AV:=⟨.nil⟩
def Chunk(P:Program)(SG:aO)(G:AF->AS->Prop):Prop:=∀(k:Nat) (fr aQ:AF) (s s1:AS),eh P SG k fr s= .ok (.go aQ) s1->G aQ s1->G fr s
def Ev(P:Program)(SG:aO)(R:AF->Option Code->AS->Prop)(fr:AF)(s:AS):Prop:=∃k aQ j s1,eh P SG k fr s= .ok (.leave aQ j) s1/\R aQ j s1
def AA(P:Program)(B:aI)(U:Nat)(Q:Tr AV->List Nat->Option Code->AS->Prop)(fr:AF)(s:AS):Prop:=U<=s.nx->av P B U Q fr s
def yG(P:Program)(SG:aO)(G:AF->AS->Prop)(f nt:Nat)(K:List Item)(ops:Array Oper)(i:Nat)(t:Tr AV)(s:AS):Prop:=∃t1 s1,p0 P SG nt ops i (ops.size - i) t s= .ok t1 s1/\G ⟨f,t1,nt,K,[],none⟩ s1
def rr(P:Program)(SG:aO)(G:AF->AS->Prop)(f nt:Nat)(K:List Item)(ops:Array Oper)(acc:List dD)(i:Nat)(t:Tr AV)(s:AS):Prop:=∃t1 ms s1,uE P SG nt ops i (ops.size - i) t s= .ok (t1,ms) s1/\qQ (Region.before ops) (acc++ms) (acc++ms)=true/\G ⟨f,t1,nt,K,[],none⟩ s1
def HX:Tr ae->List (Nat×Option ae)->Tr ae
 |t,[]=>t
 |t,p::l=>HX (t.put p.1 p.2) l
def Kw(s:AS):AS:=⟨s.h,s.nx,s.nx,[],[]⟩
def EP(s s1:AS):AS:=⟨s1.h,s1.nx,s.mark,below s.mark s1.rd++s.rd,below s.mark s1.wr++s.wr⟩
def LX(i:Nat)(s s1:AS):dD:=⟨i,below s.nx s1.rd,below s.nx s1.wr,s.nx,s1.nx⟩
end
section
variable {P:Program} {B:aI} {U:Nat} {Q:Tr AV->List Nat->Option Code->AS->Prop} {s s1:AS} {SG:aO} {t:Tr AV} {ops:Array Oper} {f nt i:Nat} {K:List Item} {G:AF->AS->Prop} {acc:List dD}
theorem Chunk.F0(bU:P.follows .mixedOrders=true)(hc:fR P B SG)(hl:∀t a,SF<|SG t a):Chunk P SG<|AA P B U Q:=by intro k fr aQ s s1 h H h0 ρ w b a cs bH ay hf;have le:=(SF.eh P hl k fr).le ay.cG h;exact av.chunk bU hc hl h h0 (H<|Nat.le_trans h0 le) ρ w b a cs bH ay hf
theorem Ud:∀{k m:Nat} {fr aQ:AF} {s s1:AS},eh P SG k fr s= .ok (.go aQ) s1->eh P SG (k+m) fr s=eh P SG m aQ s1
 |0,m,fr,aQ,s,s1,h=>by cases h;rw[Nat.zero_add]
 |k+1,m,fr,aQ,s,s1,h=>by
  obtain⟨y,s2,h1,h2⟩:=M.aR (show((jg P SG fr).bind fun x=> @bt.rec (fun _=>M bt) (eh P SG k) (fun fr j=>M.pure<|.leave fr j) x) s= .ok _ s1 from h);cases y with
  |go qB=>rw[show k+1+m=(k+m)+1 by omega,BN h1];exact Ud h2
  |leave qB j'=>cases h2
theorem Chunk.ev{R:AF->Option Code->AS->Prop}:Chunk P SG<|Ev P SG R:=by intro k fr aQ s s1 h ⟨m,ko,j,s2,h1,h2⟩;exact⟨k+m,ko,j,s2,by rw[Ud h];exact h1,h2⟩
theorem Chunk.A0(hG:Chunk P SG G)(EO:c= .region id (opsOf c) false)(H:yG P SG G f nt K (opsOf c) 0 t s):G ⟨f,t,nt,.code c::K,[],none⟩ s:=by
 obtain⟨t1,s1,h,H⟩:=H;refine hG 1 _ _ _ s1 (BN ?_) H;have ht:((opsOf c).toList.drop 0).take ((opsOf c).size - 0)=(opsOf c).toList:=by rw[List.drop_zero,Nat.sub_zero, ←Array.length_toList,List.take_length]
 unfold p0 at h;rw[ht] at h;rw[EO];show((jl P SG nt (opsOf c) (opsOf c).toList t).bind fun t=>M.pure<|bt.go ⟨f,t,nt,K,[],none⟩) s=_;rw[M.bO h];rfl
theorem Chunk.ajW(hG:Chunk P SG G)(EO:c= .region id (opsOf c) true)(H:rr P SG G f nt K (opsOf c) [] 0 t s):G ⟨f,t,nt,.code c::K,[],none⟩ s:=by
 obtain⟨t1,ms,s1,h,hm,H⟩:=H;rw[List.nil_append] at hm;refine hG 1 _ _ _ s1 (BN ?_) H;have ht:((opsOf c).toList.drop 0).take ((opsOf c).size - 0)=(opsOf c).toList:=by rw[List.drop_zero,Nat.sub_zero, ←Array.length_toList,List.take_length]
 unfold uE at h;rw[ht] at h;rw[EO];show((qI P SG nt (opsOf c) t).bind fun t=>M.pure<|bt.go ⟨f,t,nt,K,[],none⟩) s=_;have:qI P SG nt (opsOf c) t s= .ok t1 s1:=by unfold qI;rw[M.bO h];show aF (qQ (Region.before<|opsOf c) ms ms) (M.pure t1) s1=_;rw[hm,dA];rfl
 rw[M.bO this];rfl
theorem yG.done(h:Nat.ble ops.size i=true)(H:G ⟨f,t,nt,K,[],none⟩ s):yG P SG G f nt K ops i t s:=by refine⟨t,s,?_,H⟩;rw[show ops.size - i=0 by have:=aL.1 h;omega];unfold p0;rw[List.take_zero];rfl
theorem rr.done(h:(Nat.ble ops.size i&&qQ (Region.before ops) acc acc)=true)(H:G ⟨f,t,nt,K,[],none⟩ s):rr P SG G f nt K ops acc i t s:=by obtain⟨h1,h2⟩:=and_true.1 h;refine⟨t,[],s,?_,by rw[List.append_nil];exact h2,H⟩;rw[show ops.size - i=0 by have:=aL.1 h1;omega];unfold uE;rw[List.take_zero];rfl
theorem yG.step(hn:Nat.blt i ops.size=true)(h:p0 P SG nt ops i 1 t s= .ok t1 s1)(H:yG P SG G f nt K ops (i+1) t1 s1):yG P SG G f nt K ops i t s:=by obtain⟨t2,s2,h1,h2⟩:=H;have cF:=(blt_eq _ _).mp hn;refine⟨t2,s2,?_,h2⟩;rw[show ops.size - i=1+(ops.size - (i+1)) by omega];exact Ty h h1
theorem rr.step{ms:List dD}(hn:Nat.blt i ops.size=true)(h:uE P SG nt ops i 1 t s= .ok (t1,ms) s1)(H:rr P SG G f nt K ops (acc++ms) (i+1) t1 s1):rr P SG G f nt K ops acc i t s:=by obtain⟨t2,ms2,s2,h1,h2,h3⟩:=H;have cF:=(blt_eq _ _).mp hn;refine⟨t2,_,s2,?_,by rw[←List.append_assoc];exact h2,h3⟩;rw[show ops.size - i=1+(ops.size - (i+1)) by omega];exact US rfl ak h h1
theorem VM{op:Op}(h:yE ops i=some (op,d,g)):Nat.blt i ops.size=true:=by obtain⟨o,e,_⟩:=JO h;rw[blt_eq];exact(Array.getElem?_eq_some_iff.1 e).1
noncomputable def Lq(ops:Array Oper)(g:Option<|Nat×Bool)(t:Tr AV):Bool:=
 match g with
 |none=>true
 |some g=>tX ops t g.1&&qL ops g t
theorem agx{op:Op}(ho:yE ops i=some (op,d,g))(hw:Lq ops g t=true)(h:(dP P op).val SG t s= .ok v s1)(hp:jk nt t d v=some t1):p0 P SG nt ops i 1 t s= .ok t1 s1:=by
 cases g with
 |none=>exact cM ho h hp
 |some g=>obtain⟨h1,h2⟩:=and_true.1 (show(tX ops t g.1&&qL ops g t)=true from hw);exact ajU ho h1 h2 h hp
theorem aeQ{op:Op}(ho:yE ops i=some (op,d,g))(hw:Lq ops g t=true)(h:(dP P op).val SG t (Kw s)= .ok v s1)(hp:jk nt t d v=some t1):uE P SG nt ops i 1 t s= .ok (t1,[LX i s s1]) (EP s s1):=by
 obtain⟨o,e,rfl,rfl,e3⟩:=JO ho;unfold uE;have hl:(ops.toList.drop i).take 1=[o]:=by
  have h1:ops.toList[i]? =some o:=by rw[Array.getElem?_toList];exact e
  obtain⟨hi,e⟩:=List.getElem?_eq_some_iff.1 h1;rw[List.drop_eq_getElem_cons hi,e];rfl
 rw[hl];have ha:gP P SG nt ops o t (Kw s)= .ok t1 s1:=by
  unfold gP Cl;rw[e3];cases g with
  |none=>show sO (dP P o.op) o.dst SG nt t _=_;unfold sO;rw[M.bO h,hp];rfl
  |some g=>obtain⟨h1,h2⟩:=and_true.1 (show(tX ops t g.1&&qL ops g t)=true from hw);show uw ops g (dP P o.op) o.dst SG nt t _=_;unfold uw;rw[h1,h2,dA];show((dP P o.op).val SG t).bind (fun v=>lift<|jk nt t o.dst v) _=_;rw[M.bO h,hp];rfl
 have hal:alone i (gP P SG nt ops o t) s= .ok (t1,LX i s s1) (EP s s1):=by obtain⟨hh,nx,mark,rd,wr⟩:=s;obtain⟨yT,qx,Qg,gu,ou⟩:=s1;unfold alone;simp only[zE];show(@R.rec _ (fun _=>R<|Tr AV×dD) .bad (fun a s1=>_)<|gP P SG nt ops o t<|Kw ⟨hh,nx,mark,rd,wr⟩)=_;rw[ha];rfl
 show((alone i<|gP P SG nt ops o t).bind fun x=>(nz P SG nt ops [] (i+1) x.1).bind fun y=>M.pure (y.1,x.2::y.2)) s=_;rw[M.bO hal];rfl
def QN:BinOp->Int->Int->Option Bool
 | .lss,a,b=>some<|decide<|a<b
 | .leq,a,b=>some<|decide<|a<=b
 | .gtr,a,b=>some<|decide<|a>b
 | .geq,a,b=>some<|decide<|a>=b
 | .eql,a,b=>some<|a == b
 | .neq,a,b=>some<|!(a == b)
 |_,_,_=>none
theorem agy{op:BinOp}{ty yt:TypeId}{x y:Operand}{k:IntKind}{a b:Int}{r:Bool}(hx:aK t x=some (.int k a))(hy:aK t y=some (.int k b))(h:QN op a b=some r):(dP P<|.binOp op ty x y yt).val SG t s= .ok (.bool r) s:=by cases op<;>simp only[QN,Option.some.injEq,reduceCtorEq] at h<;>exact aeN hx hy rfl rfl (by subst h;rfl)
theorem AA.start(h:Nat.ble U s.nx=true){fr:AF}(H:AA P B U Q fr s):av P B U Q fr s:=H<|aL.1 h
theorem xH{g:FuncId}{fn:Func}(h:P.funcs[g]? =some fn)(hb:fn.body.isSome=true):fn.body=some (aW P g []):=by
 unfold aW WS;rw[h];simp only[tS];cases e:fn.body with
 |none=>rw[e] at hb;cases hb
 |some c=>rfl
end
end Go.Rn
namespace Go.Rn
open Go.RowKit
variable {α:Type} {l:List α} {i K n j:Nat} {enc:α->List AV} {c x c':α}
theorem Ue{α:Type}(u v:Option α):∀(p q:List Bool) (t:Tr α),p≠q->Tr.mK u p (Tr.mK v q t)=Tr.mK v q (Tr.mK u p t)
 |[],[],_,h=>absurd rfl h
 |[],b::q,t,_=>by
  cases t with
  |nil=>cases b<;>rfl
  |node l x r=>cases b<;>rfl
 |a::p,[],t,_=>by
  cases t with
  |nil=>cases a<;>rfl
  |node l x r=>cases a<;>rfl
 |a::p,b::q,t,h=>by
  have ih:∀t:Tr α,a=b->Tr.mK u p (Tr.mK v q t)=Tr.mK v q (Tr.mK u p t):=fun t e=>Ue u v p q t (fun e2=>h<|by rw[e,e2]);cases t with
  |nil=>cases a<;>cases b<;>simp[Tr.Ox,Tr.Gp,ih]
  |node l x r=>cases a<;>cases b<;>simp[Tr.Gp,ih]
theorem NZ(u v:Option α):∀(p:List Bool) (t:Tr α),Tr.mK u p (Tr.mK v p t)=Tr.mK u p t
 |[],t=>by cases t<;>rfl
 |a::p,t=>by
  cases t with
  |nil=>cases a<;>simp[Tr.Ox,Tr.Gp,NZ u v p]
  |node l x r=>cases a<;>simp[Tr.Gp,NZ u v p]
theorem put_comm(t:Tr α)(n m:Nat)(u v:Option α)(hn:n<top)(h:n≠m):(t.put m v).put n u=(t.put n u).put m v:=Ue u v _ _ t fun e=>VA hn (fun e2=>h e2.symm) e.symm
theorem adx(t:Tr α)(n:Nat)(u v:Option α):(t.put n v).put n u=t.put n u:=NZ u v _ t
theorem UW:∀(l:List α) (i:Nat) (t:Tr α) (n:Nat),n<i->n<top->(Tr.fill l i t).put n (some x)=Tr.fill l i (t.put n<|some x)
 |[],_,_,_,_,_=>rfl
 |y::l,i,t,n,h,hn=>by show(Tr.fill l (i+1)<|t.put i<|some y).put n (some x)=Tr.fill l (i+1) ((t.put n<|some x).put i<|some y);rw[UW l (i+1) _ n ak hn,put_comm t n i _ _ hn ak]
theorem Uf:∀(l:List α) (i k:Nat) (t:Tr α),k<l.length->i+k<top->(Tr.fill l i t).put (i+k) (some x)=Tr.fill (l.set k x) i t
 |[],_,_,_,h,_=>by simp at h
 |y::l,i,0,t,_,h=>by show(Tr.fill l (i+1)<|t.put i<|some y).put i (some x)=Tr.fill l (i+1) (t.put i<|some x);rw[UW l (i+1) _ i ak h,adx]
 |y::l,i,k+1,t,h,ht=>by show(Tr.fill l (i+1)<|t.put i<|some y).put (i+(k+1)) (some x)=Tr.fill (l.set k x) (i+1) (t.put i<|some y);rw[show i+(k+1)=i+1+k by omega];exact Uf l (i+1) k _ (by simpa using h) ak
def iu:List α->Nat->List α->List α
 |l,_,[]=>l
 |l,k,x::r=>iu (l.set k x) (k+1) r
theorem Ug{α:Type}:∀(r l:List α) (k:Nat),k+r.length<=l.length->l.length<=top->Tr.fill r k (Tr.fill l 0 .nil)=Tr.fill (iu l k r) 0 .nil
 |[],_,_,_,_=>rfl
 |x::r,l,k,h,ht=>by simp only[List.length_cons] at h;show Tr.fill r (k+1) ((Tr.fill l 0 .nil).put k<|some x)=Tr.fill (iu (l.set k x) (k+1) r) 0 .nil;have:=Uf (x:=x) l 0 k .nil ak ak;rw[Nat.zero_add] at this;rw[this];exact Ug r (l.set k x) (k+1) (by rw[List.length_set];omega) (by rw[List.length_set];exact ht)
theorem Pc{α:Type}:∀(r l:List α) (k i:Nat),k+r.length<=l.length->(iu l k r)[i]? =if k<=i/\i<k+r.length then r[i - k]? else l[i]?
 |[],l,k,i,_=>by show l[i]? =_;simp;intro h1 h2;omega
 |x::r,l,k,i,h=>by
  simp only[List.length_cons] at h ⊢;show(iu (l.set k x) (k+1) r)[i]? =_;rw[Pc r (l.set k x) (k+1) i (by rw[List.length_set];omega)];by_cases e:i=k
  ·subst e;rw[if_neg ak,if_pos ak,Nat.sub_self,List.getElem?_set];simp;omega
  ·by_cases q:k+1<=i/\i<k+1+r.length
   ·rw[if_pos q,if_pos ak];obtain⟨j,rfl⟩:∃j,i=k+1+j:=⟨i - (k+1),by omega⟩;rw[show k+1+j - (k+1)=j by omega,show k+1+j - k=j+1 by omega];simp
   ·rw[if_neg q,if_neg ak,List.getElem?_set_ne ak]
theorem J5{K:Nat}{β:Type}:∀{L:List<|List β} {i j:Nat},(∀c∈L,c.length=K)->i<L.length->j<K->∀{c:List β},L[i]? =some c->L.flatten[i*K+j]? =c[j]?
 |[],_,_,_,h,_,_,_=>by simp at h
 |x::L,0,j,hL,_,hj,c,hc=>by simp at hc;subst hc;have hx:=hL x List.mem_cons_self;rw[List.flatten_cons,Nat.zero_mul,Nat.zero_add,List.getElem?_append_left ak]
 |x::L,i+1,j,hL,hi,hj,c,hc=>by have hx:=hL x List.mem_cons_self;rw[List.flatten_cons,List.getElem?_append_right (by rw[hx,Nat.add_mul];omega),hx,show(i+1)*K+j - K=i*K+j by rw[Nat.add_mul];omega];exact J5 (fun c hc=>hL c<|List.mem_cons_of_mem _ hc) (by simpa using hi) hj (by simpa using hc)
theorem ady(he:∀x,(enc x).length=K){r:List AV}(hc:l[i]? =some c)(hr:enc c'=iu (enc c) j r)(hj:j+r.length<=K):iu (l.map enc).flatten (i*K+j) r=((l.set i c').map enc).flatten:=by
 have hi:=(List.getElem?_eq_some_iff.1 hc).1;have dG:∀(l:List α),∀c∈l.map enc,c.length=K:=fun l c hc=>by obtain⟨x,_,rfl⟩:=List.mem_map.1 hc;exact he x
 have y9:∀l:List α,(l.map enc).flatten.length=l.length*K:=fun l=>by rw[tJ<|dG l,List.length_map]
 have hmul:i*K+K<=l.length*K:=by have:=Nat.mul_le_mul_right K hi;rw[Nat.succ_mul] at this;exact this
 apply List.ext_getElem?;intro m;rw[Pc _ _ _ _ (by rw[y9];omega)];by_cases hm:m<l.length*K
 ·have hK:0<K:=by
   cases K with
   |zero=>simp at hm
   |succ k=>omega
  have hq:m / K<l.length:=by rw[Nat.div_lt_iff_lt_mul hK];exact hm
  have F1:m=m / K*K+m % K:=by rw[Nat.mul_comm];exact(Nat.div_add_mod m K).symm
  have HY:m % K<K:=Nat.mod_lt _ hK;have hold:(l.map enc).flatten[m]? =(enc<|l[m / K]'hq)[m % K]? :=by
   conv=>lhs;rw[F1]
   exact J5 (dG l) (by rw[List.length_map];exact hq) HY (by rw[List.getElem?_map,List.getElem?_eq_getElem hq];rfl)
  have dS:m / K<(l.set i c').length:=by rw[List.length_set];exact hq
  have wz:((l.set i c').map enc).flatten[m]? =(enc<|(l.set i c')[m / K]'dS)[m % K]? :=by
   conv=>lhs;rw[F1]
   exact J5 (dG _) (by rw[List.length_map];exact dS) HY (by rw[List.getElem?_map,List.getElem?_eq_getElem dS];rfl)
  rw[wz,hold];by_cases e:m / K=i
  ·have hci:l[m / K]'hq=c:=by
    have:l[m / K]? =some c:=by rw[e];exact hc
    rw[List.getElem?_eq_getElem hq] at this;injection this
   have uZ:(l.set i c')[m / K]'dS=c':=by simp[e]
   rw[uZ,hci,hr,Pc _ _ _ _ (by rw[he];exact hj)];have anY:m=i*K+m % K:=by rw[e] at F1;exact F1
   by_cases q:j<=m % K/\m % K<j+r.length
   ·rw[if_pos ak,if_pos q];congr 1;omega
   ·rw[if_neg (by intro q2;apply q;omega),if_neg q]
  ·have uZ:(l.set i c')[m / K]'dS=l[m / K]'hq:=by rw[List.getElem_set_ne fun e2=>e e2.symm]
   rw[uZ,if_neg];intro q;apply e;have h1:m<(i+1)*K:=by rw[Nat.add_mul];omega
   have h2:i*K<=m:=by omega
   have h3:=(Nat.le_div_iff_mul_le hK).2 h2;have h4:=(Nat.div_lt_iff_lt_mul hK).2 h1;omega
 ·rw[if_neg ak,List.getElem?_eq_none (by rw[y9];omega),List.getElem?_eq_none (by rw[y9,List.length_set];omega)]
noncomputable section
def bc(n:Nat)(s:AS):AS:= @Bool.rec (fun _=>AS) s ⟨s.h,s.nx,s.mark,n::s.rd,s.wr⟩<|Nat.blt n s.mark
def fB(n:Nat)(o:Option ae)(s:AS):AS:= @Bool.rec (fun _=>AS) ⟨s.h.put n o,s.nx,s.mark,s.rd,s.wr⟩ ⟨s.h.put n o,s.nx,s.mark,n::s.rd,n::s.wr⟩<|Nat.blt n s.mark
end
section
variable {P:Program} {s:AS} {SG:aO} {t:Tr AV}
theorem lY{o:ae}(h1:Nat.blt n s.nx=true)(h2:s.h.get n=some o):bz n s= .ok o (bc n s):=by obtain⟨hh,nx,mark,rd,wr⟩:=s;have e1:Nat.blt n nx=true:=h1;have e2:hh.get n=some o:=h2;show @Bool.rec (fun _=>R ae) .bad (@Option.rec ae (fun _=>R ae) .bad (fun o=> @Bool.rec (fun _=>R ae) (.ok o ⟨hh,nx,mark,rd,wr⟩) (.ok o ⟨hh,nx,mark,n::rd,wr⟩)<|Nat.blt n mark)<|hh.get n) (Nat.blt n nx)=_;rw[e1,e2];show @Bool.rec (fun _=>R ae) (.ok o ⟨hh,nx,mark,rd,wr⟩) (.ok o ⟨hh,nx,mark,n::rd,wr⟩) (Nat.blt n mark)= .ok o (@Bool.rec (fun _=>AS) ⟨hh,nx,mark,rd,wr⟩ ⟨hh,nx,mark,n::rd,wr⟩<|Nat.blt n mark);cases Nat.blt n mark<;>rfl
theorem fN(n:Nat)(s:AS):(bc n s).h=s.h/\(bc n s).nx=s.nx/\(bc n s).mark=s.mark:=by unfold bc;cases Nat.blt n s.mark<;>exact⟨rfl,rfl,rfl⟩
theorem xP{o:Option ae}{p:ae}(h1:Nat.blt n s.nx=true)(h2:s.h.get n=some p)(h3:p.dv=false)(ht:Nat.blt n top=true):bN n o s= .ok () (fB n o s):=by obtain⟨hh,nx,mark,rd,wr⟩:=s;have e1:(Nat.blt n nx&&Nat.blt n top)=true:=and_true.2 ⟨h1,ht⟩;have e2:hh.get n=some p:=h2;show @Bool.rec (fun _=>R Unit) .bad (@Option.rec ae (fun _=>R Unit) .bad (fun p=> @Bool.rec (fun _=>R Unit) (@Bool.rec (fun _=>R Unit) (.ok () ⟨hh.put n o,nx,mark,rd,wr⟩) (.ok () ⟨hh.put n o,nx,mark,n::rd,n::wr⟩)<|Nat.blt n mark) .bad p.dv)<|hh.get n) (Nat.blt n nx&&Nat.blt n top)=_;rw[e1,e2];show @Bool.rec (fun _=>R Unit) (@Bool.rec (fun _=>R Unit) (.ok () ⟨hh.put n o,nx,mark,rd,wr⟩) (.ok () ⟨hh.put n o,nx,mark,n::rd,n::wr⟩)<|Nat.blt n mark) .bad p.dv=_;rw[h3];show @Bool.rec (fun _=>R Unit) (.ok () ⟨hh.put n o,nx,mark,rd,wr⟩) (.ok () ⟨hh.put n o,nx,mark,n::rd,n::wr⟩) (Nat.blt n mark)= .ok () (@Bool.rec (fun _=>AS) ⟨hh.put n o,nx,mark,rd,wr⟩ ⟨hh.put n o,nx,mark,n::rd,n::wr⟩<|Nat.blt n mark);cases Nat.blt n mark<;>rfl
theorem zG(he:∀x,(enc x).length=K)(l:List α):(l.map enc).flatten.length=l.length*K:=by rw[tJ (K:=K) (fun c hc=>by obtain⟨x,_,rfl⟩:=List.mem_map.1 hc;exact he x),List.length_map]
theorem VN(he:∀x,(enc x).length=K){k:Nat}(hc:l[i]? =some c)(hj:j+k<=K):i*K+j+k<=(l.map enc).flatten.length/\((l.map enc).flatten.drop<|i*K+j).take k=((enc c).drop j).take k:=by
 have hi:=(List.getElem?_eq_some_iff.1 hc).1;have hmul:i*K+K<=l.length*K:=by have:=Nat.mul_le_mul_right K hi;rw[Nat.succ_mul] at this;exact this
 refine⟨by rw[zG he];omega,?_⟩;apply List.ext_getElem?;intro m;rw[List.getElem?_take,List.getElem?_take];split
 ·rename_i hm;rw[List.getElem?_drop,List.getElem?_drop,Nat.add_assoc];exact J5 (fun c hc=>by obtain⟨x,_,rfl⟩:=List.mem_map.1 hc;exact he x) (by rw[List.length_map];exact hi) ak (by rw[List.getElem?_map,hc];rfl)
 ·rfl
theorem UX(h:l[i]? =some c):(l.set i c')[i]? =some c':=by have hi:=(List.getElem?_eq_some_iff.1 h).1;rw[List.getElem?_set_self hi]
end
end Go.Rn
namespace Go.Rn
open Go.RowKit
def UY(W:World):aw:=fun k=>if k<fH then some (k,match W.heap[k]? with|some (.cells c _ _)=>c.size|_=>0) else none
end Go.Rn
namespace Go.Rn
variable {ops:Array Oper}
def agz(ops:Array Oper):Bool:=ops.toList.zipIdx.all fun x=>x.1.after.toList.all fun e=> !Region.binds .any e||decide (e.on<x.2)
def Ql(ops:Array Oper)(x y:Oper):Bool:=
 match x.dst with
 |none=>false
 |some d=>(y.looksAt ops).contains d||y.dst == some d
def agA(ops:Array Oper)(b:Array Nat):Bool:=ops.toList.zipIdx.all fun x=>ops.toList.zipIdx.all fun y=> !(Ql ops x.1 y.1)||(Nat.beq x.2 y.2|| !loose b x.2 y.2)
def QO(ops:Array Oper):Bool:=agz ops&&agA ops (CheckFast.beforeF ops)
def tT:Code->Bool
 | .seq a b=>tT a&&tT b
 | .cond _ a b=>tT a&&tT b
 | .block _ b=>tT b
 | .loop b=>tT b
 | .scope b=>tT b
 | .region _ ops draw=> !draw||QO ops
 | .rangeFunc _ _ a b=>tT a&&tT b
 |_=>true
def ah0(P:Program):Bool:=P.funcs.toList.all fun fn=>match fn.body with
 |none=>true
 |some c=>tT c
theorem NF{i:Nat}{o:Oper}(h:ops[i]? =some o):(o,i)∈ops.toList.zipIdx:=by rw[List.mem_zipIdx_iff_getElem?];simpa using h
theorem aeR(h:QO ops=true):Li ops:=by
 unfold QO at h;obtain⟨h1,h2⟩:=Bool.and_eq_true_iff.1 h;rw[CheckFast.beforeF_eq] at h2;refine⟨fun j o e ho hm hb=>?_,fun i j x y d mR hx hy hd da=>?_⟩
 ·have:=List.all_eq_true.1 (List.all_eq_true.1 h1 _<|NF ho) e<|Array.mem_toList_iff.2 hm;simp only[hb,Bool.not_true,Bool.false_or,decide_eq_true_eq] at this;exact this
 ·have:=List.all_eq_true.1 (List.all_eq_true.1 h2 _<|NF hx) _<|NF hy;have hc:Ql ops x y=true:=by
   unfold Ql;rw[hd];simp only[Bool.or_eq_true,beq_iff_eq];rcases da with q|q
   ·exact .inl<|List.contains_iff_mem.2 q
   ·exact .inr q
  simp only[hc,Bool.not_true,Bool.false_or,Bool.or_eq_true,Bool.not_eq_true'] at this;rcases this with q|q
  ·exact absurd (Nat.beq_eq.mp q) mR
  ·exact q
theorem abA:∀{c:Code},tT c=true->iD c:=by
 intro c;induction c with
 |seq a b CW CX=>intro h;obtain⟨h1,h2⟩:=Bool.and_eq_true_iff.1 h;exact⟨CW h1,CX h2⟩
 |cond _ a b CW CX=>intro h;obtain⟨h1,h2⟩:=Bool.and_eq_true_iff.1 h;exact⟨CW h1,CX h2⟩
 |block _ b ih=>intro h;exact ih h
 |loop b ih=>intro h;exact ih h
 |scope b ih=>intro h;exact ih h
 |region id ops draw=>intro h hd;subst hd;exact aeR h
 |rangeFunc _ _ a b CW CX=>intro h;obtain⟨h1,h2⟩:=Bool.and_eq_true_iff.1 h;exact⟨CW h1,CX h2⟩
 |_=>intro _;trivial
theorem anA{P:Program}(hm:P.follows .mixedOrders=true)(h:ah0 P=true):bC P:=by refine⟨hm,fun f fn body hf hb=>?_⟩;have:=List.all_eq_true.1 h fn (List.mem_of_getElem?<|by simpa using hf);rw[hb] at this;exact abA this
end Go.Rn
namespace Go.Rn
open Go.RowKit
noncomputable section
end
end Go.Rn
namespace Go.Rn
open Go.RowKit
noncomputable section
end
section
variable {P:Program} {s s1:AS} {SG:aO} {t:Tr AV}
end
end Go.Rn
namespace Go.Rn
end Go.Rn
namespace Go.Rn
open Go.RowKit
variable {ρ σ:aw} {x:AV} {v:Value}
theorem aeS(k:IntKind)(lo hi:Int)(n:Int)(h:lo<=n/\n<=hi)(hk:(k.signed=true/\lo= -(2 ^ (k.bits - 1):Int)/\hi=(2 ^ (k.bits - 1):Int) - 1/\(2 ^ k.bits:Int)=2*(2 ^ (k.bits - 1):Int)/\(0:Int)<(2 ^ (k.bits - 1):Int))\/(k.signed=false/\lo=0/\hi=(2 ^ k.bits:Int) - 1)):IntKind.wrap k n=n:=by
 unfold IntKind.wrap;rcases hk with⟨hs,h1,h2,h3,h4⟩|⟨hs,h1,h2⟩
 ·simp only[hs,Bool.true_and,decide_eq_true_eq];subst h1;subst h2;rw[h3];generalize (2 ^ (k.bits - 1):Int)=p at*;by_cases q:0<=n
  ·have:n % (2*p)=n:=Int.emod_eq_of_lt q ak;rw[this,if_neg ak]
  ·have:n % (2*p)=n+2*p:=by rw[←Int.add_emod_right,Int.emod_eq_of_lt ak ak]
   rw[this,if_pos ak];omega
 ·simp only[hs,Bool.false_and];subst h1;subst h2;have:n % (2 ^ k.bits:Int)=n:=Int.emod_eq_of_lt h.1 ak;simp[this]
theorem Bo{n:Int}(h: -9223372036854775808<=n/\n<=9223372036854775807):IntKind.wrap .i64 n=n:=aeS .i64 _ _ n h<|.inl ⟨rfl,by decide,by decide,by decide,by decide⟩
section
variable {P:Program} {s s1:AS} {SG:aO} {t:Tr AV}
end
def AV.cq(x:AV):Bool:=match x with
 | .ab n _ _=>Nat.ble top n
 |x=>x.flat
def AV.wV(x:AV):Bool:=match x with
 | .agg l=>l.all AV.cq
 |x=>x.cq
def AV.hi(x:AV):Bool:=match x with
 | .agg l=>l.all AV.cq
 | .tuple l=>l.all AV.wV
 |x=>x.cq
def iM(ρ σ:aw):Prop:=∀k x,top<=k->ρ k=some x->σ k=some x
theorem qY.hi(h:iM ρ σ){n b sh:Nat}(ht:top<=n)(k:qY ρ n b sh):qY σ n b sh:=.inr ⟨ht,fun e=>k.high ht (by
 cases q:ρ (hn n b sh) with
 |none=>rfl
 |some x=>rw[h _ _ (gg _ _ _) q] at e;cases e)⟩
theorem VR.flat(h:x.flat=true)(k:VR ρ x v):VR σ x v:=by
 cases x<;>first|(simp only[VR] at k ⊢;exact k)|(cases h;done)|skip
 case slice a len cap=>cases a with
  |some _=>cases h
  |none=>cases cap with
   |known c=>simp only[VR] at k ⊢;exact k
   |ar _ _=>cases h
   |lost=>cases h
 all_goals
  rename_i a;cases a with
  |none=>simp only[VR] at k ⊢;exact k
  |some _=>cases h
theorem AV.uc(kr:iM ρ σ)(h:x.cq=true)(k:VR ρ x v):VR σ x v:=by
 unfold AV.cq at h;split at h
 ·have ht:=aL.1 h;simp only[VR] at k ⊢;exact k.imp id fun⟨b,sh,c,q1,q2⟩=>⟨b,sh,c,q1.hi kr ht,q2⟩
 ·exact VR.flat h k
theorem AV.Pd(kr:iM ρ σ):∀{l:List AV} {vs:List Value},l.all AV.cq=true->az ρ l vs->az σ l vs
 |[],_,_,hv=>by simpa only[az] using hv
 |y::l,vs,hy,hv=>by obtain⟨h1,h2⟩:=and_true.1 (show(y.cq&&l.all AV.cq)=true from hy);simp only[az] at hv ⊢;obtain⟨a,as,e,h3,h4⟩:=hv;exact⟨a,as,e,AV.uc kr h1 h3,AV.Pd kr h2 h4⟩
theorem AV.agB(kr:iM ρ σ)(h:x.wV=true)(k:VR ρ x v):VR σ x v:=by
 unfold AV.wV at h;split at h
 ·simp only[VR] at k ⊢;obtain⟨a,e,q⟩:=k;exact⟨a,e,AV.Pd kr h q⟩
 ·exact AV.uc kr h k
theorem AV.VO(kr:iM ρ σ):∀{l:List AV} {vs:List Value},l.all AV.wV=true->az ρ l vs->az σ l vs
 |[],_,_,hv=>by simpa only[az] using hv
 |y::l,vs,hy,hv=>by obtain⟨h1,h2⟩:=and_true.1 (show(y.wV&&l.all AV.wV)=true from hy);simp only[az] at hv ⊢;obtain⟨a,as,e,h3,h4⟩:=hv;exact⟨a,as,e,AV.agB kr h1 h3,AV.VO kr h2 h4⟩
theorem AV.pb(kr:iM ρ σ)(h:x.hi=true)(k:VR ρ x v):VR σ x v:=by
 unfold AV.hi at h;split at h
 ·simp only[VR] at k ⊢;obtain⟨a,e,q⟩:=k;exact⟨a,e,AV.Pd kr h q⟩
 ·simp only[VR] at k ⊢;obtain⟨a,e,q⟩:=k;exact⟨a,e,AV.VO kr h q⟩
 ·exact AV.uc kr h k
theorem AV.zX(kr:iM ρ σ):∀{l:List AV} {vs:List Value},l.all AV.hi=true->az ρ l vs->az σ l vs
 |[],_,_,hv=>by simpa only[az] using hv
 |y::l,vs,hy,hv=>by obtain⟨h1,h2⟩:=and_true.1 (show(y.hi&&l.all AV.hi)=true from hy);simp only[az] at hv ⊢;obtain⟨a,as,e,h3,h4⟩:=hv;exact⟨a,as,e,AV.pb kr h1 h3,AV.zX kr h2 h4⟩
theorem agC:iM ρ<|gq ρ:=fun k x hk e=>by unfold gq;rw[if_pos hk];exact e
end Go.Rn
namespace Go.Rn
open Go.RowKit
def po(sp:Sp)(g:FuncId)(m:aO->List AV->M AV):Sp:=fun f=>bif Nat.beq f g then some m else sp f
theorem TA{sp:Sp}{g:FuncId}{m m':aO->List AV->M AV}{f:FuncId}(h:po sp g m f=some m'):(f=g/\m'=m)\/sp f=some m':=by
 unfold po at h;cases e:Nat.beq f g with
 |true=>rw[e] at h;injection h with h;exact .inl ⟨Nat.eq_of_beq_eq_true e,h.symm⟩
 |false=>rw[e] at h;exact .inr h
end Go.Rn
namespace Go.Rn
end Go.Rn

namespace Go.Rn
open Go.RowKit
noncomputable section
def dL(U:Nat)(h0:Tr ae)(ns:List Nat)(s:AS):AS:=match fe U h0 ns s with| .ok _ s1=>s1| .bad=>s
def qk(U:Nat)(h0:Tr ae)(ns:List Nat)(s:AS):Bool:=match fe U h0 ns s with| .ok _ _=>true| .bad=>false
end
theorem vM{U:Nat}{h0:Tr ae}{ns:List Nat}{s:AS}(h:qk U h0 ns s=true):fe U h0 ns s= .ok () (dL U h0 ns s):=by
 unfold qk at h;unfold dL;cases e:fe U h0 ns s with
 |bad=>rw[e] at h;cases h
 |ok u s1=>rfl
section
variable {P:Program} {s s1:AS} {SG:aO} {t:Tr AV}
end
def Af(n:Int):Prop:= -9223372036854775808<=n/\n<=9223372036854775807
instance (n:Int):Decidable<|Af n:=by unfold Af;infer_instance
end Go.Rn
namespace Go.Rn
open Go.RowKit
variable {va:Bool} {rs ps:Array TypeId} {e:TypeId} {P:Program}
def J6(P:Program):DataW (List UInt8)->Option FuncId->Bool
 | .nil,none=>true
 | .held (b::r),some f=>(List.range P.funcs.size).filter (fun f=>(P.funcs[f]?).any (·.name.toUTF8.data.toList == b::r)) == [f]
 |_,_=>false
def BO(P:Program):List (DataW<|List UInt8)->List (Option FuncId)->Bool
 |[],[]=>true
 |d::ds,f::fs=>J6 P d f&&BO P ds fs
 |_,_=>false
def ah1(P:Program)(d:DataW<|List UInt8)(fs:List<|Option FuncId):Bool:=
 match d with
 | .agg ds=>BO P ds fs
 |_=>false
def J7:Option FuncId->AV
 |none=>.nilFunc
 |some f=>.func (.func f) [] []
def El:Option FuncId->Value
 |none=>.nilFunc
 |some f=>.func (.func f) #[] #[]
theorem anB(ρ:aw)(f:Option FuncId):VR ρ (J7 f)<|El f:=by
 cases f with
 |none=>simp only[J7,El,VR]
 |some f=>simp only[J7,El,VR,az];exact⟨rfl,_,_,rfl,rfl,rfl⟩
theorem UZ{α β:Type}{f:α->Option β}:∀{l:List α} {r:List β},l.mapM f=some r->l.length=r.length/\∀(i:Nat) (x:α),l[i]? =some x->∃y,r[i]? =some y/\f x=some y
 |[],r,h=>by simp at h;subst h;exact⟨rfl,fun i x hx=>by simp at hx⟩
 |a::l,r,h=>by
  rw[List.mapM_cons] at h;cases e:f a with
  |none=>simp[e] at h
  |some b=>
   cases e2:l.mapM f with
   |none=>simp[e,e2] at h
   |some bs=>
    simp[e,e2] at h;subst h;obtain⟨h1,h2⟩:=UZ e2;refine⟨by simp[h1],fun i x hx=>?_⟩;cases i with
    |zero=>simp at hx;subst hx;exact⟨b,rfl,e⟩
    |succ i=>simp at hx;obtain⟨y,h3,h4⟩:=h2 i x hx;exact⟨y,by simpa using h3,h4⟩
theorem aaC{w:World}{fuel:Nat}{v:Value}{d:DataW<|List UInt8}{q:List MemPlace}{f:Option FuncId}(he:P.underlying e=some (.func ps rs va))(h:DataW.trod (funcToken P) P w 0 (fun _=>true) true fuel e [v]=some (d,q))(hk:J6 P d f=true):v=El f:=by
 unfold J6 at hk;split at hk
 ·cases fuel with
  |zero=>simp[DataW.trod] at h
  |succ n=>cases v<;>simp[DataW.trod,he] at h;rfl
 ·exact func_of_trod he (by simpa using hk) h
 ·cases hk
theorem Tf{P:Program}:∀{ds:List<|DataW<|List UInt8} {fs:List<|Option FuncId},BO P ds fs=true->ds.length=fs.length/\∀(i:Nat) d f,ds[i]? =some d->fs[i]? =some f->J6 P d f=true
 |[],[],_=>⟨rfl,fun i d f h=>by simp at h⟩
 |[],_::_,h=>by simp[BO] at h
 |_::_,[],h=>by simp[BO] at h
 |d::ds,f::fs,h=>by
  simp only[BO,Bool.and_eq_true] at h;obtain⟨h1,h2⟩:=Tf h.2;refine⟨by simp[h1],fun i a b ha hb=>?_⟩;cases i with
  |zero=>simp at ha hb;subst ha;subst hb;exact h.1
  |succ i=>simp at ha hb;exact h2 i a b ha hb
theorem anz{W:World}{name:String}{d:DataW Unit}{g:Nat}{t:TypeId}{n:Nat}{fs:List<|Option FuncId}(h:funcsAt P W name d)(hg:P.globalNamed name=some g)(hty:(P.globals[g]?).map (·.type)=some t)(ht:P.underlying t=some (.array n e))(he:P.underlying e=some (.func ps rs va))(hc:P.cellsOf e=1)(hct:P.cellsOf t=n)(hd:ah1 P d.funcsOut fs=true):
 ∃c ty fr,W.heap[g]? =some (.cells c ty fr)/\fs.length=c.size/\∀(i:Nat) f,fs[i]? =some f->c[i]? =some (El f):=by
 obtain⟨g',t',cs,fuel,p,h1,h2,h3,h4⟩:=h;obtain rfl:g=g':=Option.some.inj<|hg.symm.trans h1;obtain rfl:t=t':=Option.some.inj<|hty.symm.trans h2;have mY:∃ty fr,W.heap[g]? =some (.cells cs ty fr):=by
  unfold World.var? at h3;rw[hg] at h3;simp only[Option.bind_some] at h3;split at h3
  ·rename_i c ty fr e;injection h3 with h3;subst h3;exact⟨ty,fr,e⟩
  ·cases h3
 obtain⟨ty,fr,mY⟩:=mY;cases fuel with
 |zero=>simp[DataW.trod] at h4
 |succ m=>
  rw[DataW.trod_step] at h4;unfold DataW.trodStep at h4;simp only[ht,hc,Nat.mul_one] at h4;split at h4
  ·rename_i hlen;rw[Option.map_eq_some_iff] at h4;obtain⟨xs,h5,h6⟩:=h4;obtain⟨h7,h8⟩:=UZ h5;have ajX:d.funcsOut= .agg (xs.map (·.1)):=by injection h6 with h6 _;exact h6.symm
   rw[ajX] at hd;obtain⟨h9,gH⟩:=Tf (show BO P (xs.map (·.1)) fs=true from hd);have hxl:xs.length=fs.length:=by simpa using h9
   have get:∀(i:Nat) f,fs[i]? =some f->cs[i]? =some (El f):=by
    intro i f hf;have hi:i<fs.length:=(List.getElem?_eq_some_iff.1 hf).1;obtain⟨y,uY,rA⟩:=h8 i i (by rw[List.getElem?_range (by simp at h7;omega)]);obtain⟨v,hv⟩:∃v,(cs.toList.drop i).take 1=[v]:=by
     cases hq:(cs.toList.drop i).take 1 with
     |nil=>
      rw[hq] at rA;cases m with
      |zero=>simp[DataW.trod] at rA
      |succ k=>simp[DataW.trod,he] at rA
     |cons v l=>
      have:((cs.toList.drop i).take 1).length<=1:=List.length_take_le _ _;rw[hq] at this;cases l with
      |nil=>exact⟨v,rfl⟩
      |cons=>simp at this
    rw[hv] at rA;have HU:=aaC (f:=f) (d:=y.1) (q:=y.2) he rA<|gH i y.1 f (by rw[List.getElem?_map,uY];rfl) hf;have:(cs.toList.drop i)[0]? =some v:=by
     have:((cs.toList.drop i).take 1)[0]? =some v:=by rw[hv];rfl
     rw[List.getElem?_take_of_lt ak] at this;exact this
    rw[List.getElem?_drop,Nat.add_zero,Array.getElem?_toList] at this;rw[this,HU]
   refine⟨cs,ty,fr,mY,?_,get⟩;have Xu:=hlen;rw[hct] at Xu;simp at Xu h7;omega
  ·cases h4
theorem adz(l:List AV)(hl:l.length<=top)(i:Nat)(hi:i<l.length):(Tr.fill l 0 .nil).get i=l[i]? :=by rw[Tr.xA _ _ _ _ ak,if_pos ak];simp
end Go.Rn
namespace Go.Rn
open Go.RowKit
noncomputable section
end
end Go.Rn
namespace Go.Rn
open Go.RowKit
noncomputable section
end
section
variable {P:Program} {B:aI} {U:Nat} {s s1:AS} {SG:aO} {t:Tr AV} {ops:Array Oper} {f nt i:Nat} {K:List Item} {G:AF->AS->Prop} {acc:List dD} {rs:List ResultVar} {v v':AV}
end
section
variable {P:Program} {s s1:AS} {SG:aO} {t:Tr AV}
end
noncomputable section
end
section
variable {P:Program} {F:Nat->Option (List AV)} {sp:Sp} {g n k:Nat} {ad:Option<|Nat×Nat} {cp:cR} {s:AS} {l:List AV} {a b c d:ByteArray} {n1 n2 n3 n4:Nat}
end
end Go.Rn
namespace Go.Rn
open Go.RowKit
noncomputable section
end
end Go.Rn
namespace Go.Rn
end Go.Rn
namespace Go.Rn
open Go.RowKit
variable {n:Nat} {α:Type} {y x:Operand} {ty e:TypeId} {ts:Array TypeId} {l:List α} {i:TypeInfo} {enc:α->List AV}
section
variable {P:Program} {s:AS} {SG:aO} {t:Tr AV}
theorem DI{off k:Nat}{l:List AV}(h1:Nat.blt n s.nx=true)(h2:s.h.get n=some (.cells l.length (Tr.fill l 0 .nil) []))(hl:l.length<=top)(Zf:0<k)(hk:off+k<=l.length):jd n off k s= .ok ((l.drop off).take k) (bc n s):=by
 cases k with
 |zero=>omega
 |succ k=>
  show((bz n).bind fun o=>match o with
   | .cells m t z=>aF (Nat.ble (off+(k+1)) m) <| lift (l6 t z (k+1) off)
   | .ro m t=>aF (Nat.ble (off+(k+1)) m) <| lift (l6 t [] (k+1) off)
   |_=>fail) s=_
  rw[M.bO<|lY h1 h2];show aF (Nat.ble (off+(k+1)) l.length) (lift<|l6 (Tr.fill l 0 .nil) [] (k+1) off) (bc n s)=_;rw[aL.2 hk,dA,Nu hl _ _ hk];rfl
theorem agD{L:List α}{len:Nat}{cap:cR}{n0 o0 k0:Nat}(hx:aK t x=some (.slice (some (n,0)) len cap))(hlen:len=l.length)(hy:aK t y=some (.ab n0 o0 k0))(h0:ts[0]? =some ty)(hu:P.underlying ty=some (.slice e))(hi:P.info? e=some i)(hz:and (tO i) (pV P ts[1]?)=true)(dq:Qc i.size len cap=true)(dJ:top<=n0)(eO:∀s,SG (.row n0 o0<|k0*i.size) [] s= .ok (.agg (L.map enc).flatten) s)(hk:k0=L.length)(hn:s.h.get n=some (aJ enc l))(cZ:(Nat.blt n s.nx&&Nat.blt s.nx top)=true)(yH:∀x:α,(enc x).length=i.size/\(enc x).all AV.cj=true)(hb:Nat.beq i.bytes 0=false)(ux:2*(l.length+L.length)*i.bytes+4096*i.bytes<=room)(lz:(l.length+L.length)*i.size<=top):
 ∃rd wr,(∀k∈rd,k=n\/k∈s.rd)/\(∀k∈wr,k=n\/k∈s.wr)/\(s.mark=0->rd=s.rd/\wr=s.wr)/\(dP P<|.call ⟨.builtin .append, #[x,y],ts⟩).val SG t s= .ok (.slice (some (s.nx,0)) (l++L).length<|.ar (l++L).length i.size) ⟨(s.h.put n none).put s.nx<|some<|aJ enc<|l++L,s.nx+1,s.mark,rd,wr⟩:=by
 subst hlen;subst hk;obtain⟨fC,Dc⟩:=and_true.1 cZ;have ajY:=(blt_eq _ _).mp fC;have CD:=(blt_eq _ _).mp Dc;have pc:∀l:List α,(l.map enc).flatten.length=l.length*i.size:=fun l=>by
  have:=tJ (K:=i.size) (l:=l.map enc) fun c hc=>by obtain⟨a,_,rfl⟩:=List.mem_map.1 hc;exact(yH a).1
  rw[this,List.length_map]
 have wx:∀l:List α,(l.map enc).flatten.all AV.cj=true:=by
  intro l;induction l with
  |nil=>rfl
  |cons x l ih=>simp only[List.map_cons,List.flatten_cons,List.all_append,ih,(yH x).2,Bool.and_true]
 have cF:(l.map enc).flatten.length<=top:=by rw[pc];have:=Nat.mul_le_mul_right i.size (show l.length<=l.length+L.length by omega);omega
 have Qm:∃rd,(∀k∈rd,k=n\/k∈s.rd)/\(s.mark=0->rd=s.rd)/\jd n 0 (l.length*i.size) s= .ok (l.map enc).flatten ⟨s.h,s.nx,s.mark,rd,s.wr⟩:=by
  cases hk:l.length*i.size with
  |zero=>have:(l.map enc).flatten=[]:=List.eq_nil_of_length_eq_zero (by rw[pc,hk]);rw[this];exact⟨s.rd,fun k h=>.inr h,fun _=>rfl,rfl⟩
  |succ k=>
   have hr:=DI (n:=n) (off:=0) (k:=k+1) (l:=(l.map enc).flatten) (s:=s) fC hn cF (Nat.succ_pos _) (by rw[pc,hk];omega);rw[List.drop_zero, ←hk, ←pc,List.take_length] at hr;rw[←hk, ←pc];refine⟨(bc n s).rd,?_,fun hm=>?_,?_⟩
   ·intro k h;unfold bc at h;cases q:Nat.blt n s.mark with
    |false=>rw[q] at h;exact .inr h
    |true=>rw[q] at h;rcases List.mem_cons.1 h with h|h;exact .inl h;exact .inr h
   ·unfold bc;rw[hm,show Nat.blt n 0=false from by cases q:Nat.blt n 0 with|false=>rfl|true=>have:=(blt_eq _ _).mp q;omega]
   ·rw[hr];congr 1;unfold bc;cases Nat.blt n s.mark<;>rfl
 obtain⟨gu,a1,a2,a3⟩:=Qm;have qi:∃rd wr,(∀k∈rd,k=n\/k∈s.rd)/\(∀k∈wr,k=n\/k∈s.wr)/\(s.mark=0->rd=s.rd/\wr=s.wr)/\
  ((bz n).bind fun ob=>aF ob.zK <| (bN n none).bind fun _=>grown i.size i.bytes (l.length+L.length) (l.map enc).flatten (L.map enc).flatten) ⟨s.h,s.nx,s.mark,gu,s.wr⟩= .ok (.slice (some (s.nx,0)) (l.length+L.length)<|.ar (l.length+L.length) i.size) ⟨(s.h.put n none).put s.nx<|some<|aJ enc<|l++L,s.nx+1,s.mark,rd,wr⟩:=by
  rw[M.bO<|lY (s:=⟨s.h,s.nx,s.mark,gu,s.wr⟩) fC hn];rw[show(aJ enc l).zK=true from rfl,dA];obtain⟨b1,b2,b3⟩:=fN n ⟨s.h,s.nx,s.mark,gu,s.wr⟩;rw[M.bO<|xP (o:=none) (p:=aJ enc l) (s:=bc n ⟨s.h,s.nx,s.mark,gu,s.wr⟩) (by rw[b2];exact fC) (by rw[b1];exact hn) rfl (by rw[blt_eq];omega)];have QP:(l.map enc).flatten++(L.map enc).flatten=((l++L).map enc).flatten:=by rw[List.map_append,List.flatten_append]
  unfold grown;rw[show(and (Nat.ble (2*(l.length+L.length)*i.bytes+4096*i.bytes) room)<|not<|Nat.beq i.bytes 0)=true from and_true.2 ⟨aL.2 ux,by rw[hb];rfl⟩,dA,QP];have hw:∃rd wr,(∀k∈rd,k=n\/k∈s.rd)/\(∀k∈wr,k=n\/k∈s.wr)/\(s.mark=0->rd=s.rd/\wr=s.wr)/\fB n none (bc n ⟨s.h,s.nx,s.mark,gu,s.wr⟩)=⟨s.h.put n none,s.nx,s.mark,rd,wr⟩:=by
   unfold fB bc;cases q:Nat.blt n s.mark with
   |false=>refine⟨gu,s.wr,a1,fun k h=>.inr h,fun hm=>⟨a2 hm,rfl⟩,?_⟩;show(@Bool.rec (fun _=>AS) _ _<|Nat.blt n s.mark)=_;rw[q]
   |true=>
    refine⟨n::n::gu,n::s.wr,?_,?_,fun hm=>?_,?_⟩
    ·intro k h;rcases List.mem_cons.1 h with h|h
     ·exact .inl h
     ·rcases List.mem_cons.1 h with h|h
      ·exact .inl h
      ·exact a1 k h
    ·intro k h;rcases List.mem_cons.1 h with h|h
     ·exact .inl h
     ·exact .inr h
    ·rw[hm] at q;have:=(blt_eq _ _).mp q;omega
    ·show(@Bool.rec (fun _=>AS) _ _<|Nat.blt n s.mark)=_;rw[q]
  obtain⟨rd,wr,c1,c2,c3,c4⟩:=hw;rw[c4];refine⟨rd,wr,c1,c2,c3,?_⟩;have wz:=JD (s:=⟨s.h.put n none,s.nx,s.mark,rd,wr⟩) (l:=((l++L).map enc).flatten) (by rw[pc];simpa using lz) (wx _) CD;exact(M.bO wz).trans rfl
 obtain⟨rd,wr,d1,d2,d3,d4⟩:=qi;refine⟨rd,wr,d1,d2,d3,?_⟩;show oK P .append ts [x,y] SG t s=_;unfold oK;have mL:jR (aK t) [x,y]=some [.slice (some (n,0)) l.length cap,.ab n0 o0 L.length]:=by simp only[jR,hx,hy]
 rw[mL,bY];show BL P SG ts (.slice (some (n,0)) l.length cap) n0 o0 L.length s=_;unfold BL;rw[aL.2 dJ,dA,h0,bY];simp only[hu];rw[hi,bY,hz,dA,dq,dA];have hr:tP SG n0 o0 (L.length*i.size) s= .ok (L.map enc).flatten s:=by
  rcases Nat.eq_zero_or_pos (L.length*i.size) with RM|RM
  ·rw[List.eq_nil_of_length_eq_zero<|(pc L).trans RM,RM];rfl
  rw[show tP SG n0 o0 (L.length*i.size)=(SG (.row n0 o0<|L.length*i.size) []).bind fun x=>match x with
   | .agg l=>aF (Nat.beq l.length<|L.length*i.size) <| M.pure l
   |_=>fail from by obtain⟨m,hm⟩:∃m,L.length*i.size=m+1:=⟨L.length*i.size - 1,by omega⟩;rw[hm];rfl]
  rw[M.bO<|eO s];show aF (Nat.beq (L.map enc).flatten.length<|L.length*i.size) (M.pure (L.map enc).flatten) s=_;rw[pc,eB.2 rfl,dA];rfl
 rw[M.bO hr,M.bO a3,d4];simp
theorem agE{c:α}{m:Nat}(hx:aK t x=some (.slice (some (n,0)) l.length<|.ar l.length i.size))(hy:aK t y=some (.slice (some (m,0)) 1<|.known 1))(h0:ts[0]? =some ty)(hu:P.underlying ty=some (.slice e))(hi:P.info? e=some i)(hz:and (tO i) (pV P ts[1]?)=true)(hn:s.h.get n=some (aJ enc l))(hm:s.h.get m=some (.cells (enc c).length (Tr.fill (enc c) 0 .nil) []))(cZ:(Nat.blt n s.nx&&(Nat.blt m s.nx&&Nat.blt s.nx top))=true)(yH:∀x:α,(enc x).length=i.size/\(enc x).all AV.cj=true)(Fl:0<i.size)(hb:Nat.beq i.bytes 0=false)(ux:2*(l.length+1)*i.bytes+4096*i.bytes<=room)(lz:(l.length+1)*i.size<=top):
 ∃rd wr,(∀k∈rd,k=n\/k=m\/k∈s.rd)/\(∀k∈wr,k=n\/k∈s.wr)/\(s.mark=0->rd=s.rd/\wr=s.wr)/\(dP P<|.call ⟨.builtin .append, #[x,y],ts⟩).val SG t s= .ok (.slice (some (s.nx,0)) (l++[c]).length<|.ar (l++[c]).length i.size) ⟨(s.h.put n none).put s.nx<|some<|aJ enc<|l++[c],s.nx+1,s.mark,rd,wr⟩:=by
 obtain⟨fC,cZ⟩:=and_true.1 cZ;obtain⟨eF,Dc⟩:=and_true.1 cZ;have ajY:=(blt_eq _ _).mp fC;have CD:=(blt_eq _ _).mp Dc;have pc:∀l:List α,(l.map enc).flatten.length=l.length*i.size:=fun l=>by
  have:=tJ (K:=i.size) (l:=l.map enc) fun c hc=>by obtain⟨a,_,rfl⟩:=List.mem_map.1 hc;exact(yH a).1
  rw[this,List.length_map]
 have wx:∀l:List α,(l.map enc).flatten.all AV.cj=true:=by
  intro l;induction l with
  |nil=>rfl
  |cons x l ih=>simp only[List.map_cons,List.flatten_cons,List.all_append,ih,(yH x).2,Bool.and_true]
 have X8:(l.length+1)*i.size=l.length*i.size+i.size:=by rw[Nat.add_mul,Nat.one_mul]
 have cF:(l.map enc).flatten.length<=top:=by rw[pc];omega
 have rk:∀{k q:Nat} {s':AS},k∈(bc q s').rd->k=q\/k∈s'.rd:=by
  intro k q s' h;unfold bc at h;cases z:Nat.blt q s'.mark with
  |false=>rw[z] at h;exact .inr h
  |true=>rw[z] at h;rcases List.mem_cons.1 h with h|h;exact .inl h;exact .inr h
 have mr:∀(q:Nat) (s':AS),s'.mark=0->bc q s'=s':=by intro q s' h;unfold bc;rw[h,show Nat.blt q 0=false from by cases z:Nat.blt q 0 with|false=>rfl|true=>have:=(blt_eq _ _).mp z;omega]
 have Xv:∀(q:Nat) (s':AS),bc q s'=⟨s'.h,s'.nx,s'.mark,(bc q s').rd,s'.wr⟩:=by intro q s';unfold bc;cases Nat.blt q s'.mark<;>rfl
 have hf:firstCells i.size 1 (.slice (some (m,0)) 1<|.known 1) s= .ok (enc c) (bc m s):=by rw[M7 jJ,Nat.one_mul];have hr:=DI (n:=m) (off:=0) (k:=i.size) (l:=enc c) (s:=s) eF hm (by rw[(yH c).1];omega) Fl (by rw[(yH c).1];omega);rw[hr,List.drop_zero, ←(yH c).1,List.take_length]
 let s1:AS:=⟨s.h,s.nx,s.mark,(bc m s).rd,s.wr⟩;have iZ:bc m s=s1:=Xv m s;have Qm:∃rd,(∀k∈rd,k=n\/k∈s1.rd)/\(s.mark=0->rd=s1.rd)/\jd n 0 (l.length*i.size) s1= .ok (l.map enc).flatten ⟨s.h,s.nx,s.mark,rd,s.wr⟩:=by
  cases hk:l.length*i.size with
  |zero=>have:(l.map enc).flatten=[]:=List.eq_nil_of_length_eq_zero (by rw[pc,hk]);rw[this];exact⟨s1.rd,fun k h=>.inr h,fun _=>rfl,rfl⟩
  |succ k=>have hr:=DI (n:=n) (off:=0) (k:=k+1) (l:=(l.map enc).flatten) (s:=s1) fC hn cF (Nat.succ_pos _) (by rw[pc,hk];omega);rw[List.drop_zero, ←hk, ←pc,List.take_length] at hr;rw[←hk, ←pc];exact⟨(bc n s1).rd,fun k h=>rk h,fun AU=>by rw[mr n s1 AU],hr.trans<|congrArg _<|Xv n s1⟩
 obtain⟨gu,a1,a2,a3⟩:=Qm;have qi:∃rd wr,(∀k∈rd,k=n\/k∈s1.rd)/\(∀k∈wr,k=n\/k∈s.wr)/\(s.mark=0->rd=s1.rd/\wr=s.wr)/\
  ((bz n).bind fun ob=>aF ob.zK <| (bN n none).bind fun _=>grown i.size i.bytes (l.length+1) (l.map enc).flatten<|enc c) ⟨s.h,s.nx,s.mark,gu,s.wr⟩= .ok (.slice (some (s.nx,0)) (l.length+1)<|.ar (l.length+1) i.size) ⟨(s.h.put n none).put s.nx<|some<|aJ enc<|l++[c],s.nx+1,s.mark,rd,wr⟩:=by
  rw[M.bO<|lY (s:=⟨s.h,s.nx,s.mark,gu,s.wr⟩) fC hn];rw[show(aJ enc l).zK=true from rfl,dA];obtain⟨b1,b2,b3⟩:=fN n ⟨s.h,s.nx,s.mark,gu,s.wr⟩;rw[M.bO<|xP (o:=none) (p:=aJ enc l) (s:=bc n ⟨s.h,s.nx,s.mark,gu,s.wr⟩) (by rw[b2];exact fC) (by rw[b1];exact hn) rfl (by rw[blt_eq];omega)];have QP:(l.map enc).flatten++enc c=((l++[c]).map enc).flatten:=by simp
  unfold grown;rw[show(and (Nat.ble (2*(l.length+1)*i.bytes+4096*i.bytes) room)<|not<|Nat.beq i.bytes 0)=true from and_true.2 ⟨aL.2 ux,by rw[hb];rfl⟩,dA,QP];have hw:∃rd wr,(∀k∈rd,k=n\/k∈s1.rd)/\(∀k∈wr,k=n\/k∈s.wr)/\(s.mark=0->rd=s1.rd/\wr=s.wr)/\fB n none (bc n ⟨s.h,s.nx,s.mark,gu,s.wr⟩)=⟨s.h.put n none,s.nx,s.mark,rd,wr⟩:=by
   unfold fB bc;cases q:Nat.blt n s.mark with
   |false=>refine⟨gu,s.wr,a1,fun k h=>.inr h,fun hm=>⟨a2 hm,rfl⟩,?_⟩;show(@Bool.rec (fun _=>AS) _ _<|Nat.blt n s.mark)=_;rw[q]
   |true=>
    refine⟨n::n::gu,n::s.wr,?_,?_,fun hm=>?_,?_⟩
    ·intro k h;rcases List.mem_cons.1 h with h|h
     ·exact .inl h
     ·rcases List.mem_cons.1 h with h|h
      ·exact .inl h
      ·exact a1 k h
    ·intro k h;rcases List.mem_cons.1 h with h|h
     ·exact .inl h
     ·exact .inr h
    ·rw[hm] at q;have:=(blt_eq _ _).mp q;omega
    ·show(@Bool.rec (fun _=>AS) _ _<|Nat.blt n s.mark)=_;rw[q]
  obtain⟨rd,wr,c1,c2,c3,c4⟩:=hw;rw[c4];refine⟨rd,wr,c1,c2,c3,?_⟩;have wz:=JD (s:=⟨s.h.put n none,s.nx,s.mark,rd,wr⟩) (l:=((l++[c]).map enc).flatten) (by rw[pc];simpa using lz) (wx _) CD;exact(M.bO wz).trans rfl
 obtain⟨rd,wr,d1,d2,d3,d4⟩:=qi;refine⟨rd,wr,fun k h=>?_,d2,fun h=>⟨(d3 h).1.trans (by show(bc m s).rd=s.rd;rw[mr m s h]),(d3 h).2⟩,?_⟩
 ·rcases d1 k h with h|h
  ·exact .inl h
  ·exact .inr<|rk h
 show oK P .append ts [x,y] SG t s=_;unfold oK;have mL:jR (aK t) [x,y]=some [.slice (some (n,0)) l.length<|.ar l.length i.size,.slice (some (m,0)) 1<|.known 1]:=by simp only[jR,hx,hy]
 rw[mL,bY];show pR P ts (.slice (some (n,0)) l.length<|.ar l.length i.size) (.slice (some (m,0)) 1<|.known 1) s=_;unfold pR;rw[h0,bY];simp only[hu];rw[hi,bY,hz,dA];show((firstCells i.size 1<|.slice (some (m,0)) 1<|.known 1).bind fun new=>aF (Nat.beq new.length<|1*i.size) <| rR i.size i.bytes (some (n,0)) l.length (.ar l.length i.size) 1 new) s=_;rw[M.bO hf,(yH c).1,Nat.one_mul,eB.2 rfl,dA,iZ];show(aF (Nat.beq i.size i.size) <| match Nat.ble (l.length+1) l.length with
  |true=>match (some (n,0):Option<|Nat×Nat) with
   |some (m,o)=>(xC m (o+l.length*i.size)<|enc c).bind fun _=>M.pure (.slice (some (m,o)) (l.length+1)<|.ar l.length i.size)
   |none=>fail
  |false=>match (some (n,0):Option<|Nat×Nat) with
   |some (m,0)=>(jd m 0<|l.length*i.size).bind fun dH=>(bz m).bind fun o=>aF o.zK <| (bN m none).bind fun _=>grown i.size i.bytes (l.length+1) dH (enc c)
   |_=>fail) s1=_
 have HZ:Nat.ble (l.length+1) l.length=false:=by
  cases q:Nat.ble (l.length+1) l.length with
  |false=>rfl
  |true=>have:=aL.1 q;omega
 rw[eB.2 rfl,dA];simp only[HZ];rw[M.bO a3,d4];simp
end
end Go.Rn
namespace Go.Rn
open Go.RowKit
variable {x i:Operand} {ty kt et:TypeId} {n:Nat} {k:Int}
section
variable {P:Program} {s s1:AS} {SG:aO} {t:Tr AV}
noncomputable def bM(m:List<|Int×Int):ae:=.lH<|di m
def lO:List (Int×Int)->Int->Bool
 |[],_=>false
 |p::l,k=>if p.1=k then true else lO l k
theorem U0(k:Int):∀(m:List<|Int×Int) (i:Nat),(lO m k=false/\lf (.int .i64 k) (di m) i=some none)\/∃j,lO m k=true/\lf (.int .i64 k) (di m) i=some (some (j,.int .i64<|getM m k))
 |[],i=>.inl ⟨rfl,rfl⟩
 |p::l,i=>by
  have hf:lf (.int .i64 k) (di<|p::l) i=(match some (k == p.1) with|none=>none|some true=>some (some (i,.int .i64 p.2))|some false=>lf (.int .i64 k) (di l)<|i+1):=rfl;by_cases e:p.1=k
  ·refine .inr ⟨i,by unfold lO;rw[if_pos e],?_⟩;rw[hf,show(k == p.1)=true by simp[e],show getM (p::l) k=p.2 by simp[getM,e]]
  ·have cz:(k == p.1)=false:=by simp;exact fun q=>e q.symm
   rw[hf,cz,show lO (p::l) k=lO l k by simp[lO,e],show getM (p::l) k=getM l k by simp[getM,e]];exact U0 k l<|i+1
theorem agF{m:List<|Int×Int}(hx:aK t x=some (.map<|some n))(hi:aK t i=some (.int .i64 k))(hu:P.underlying ty=some (.map kt et))(hk:o8 P 10000 kt (.int .i64 k)=true)(hp:plainKey P kt (.int .i64 k)=true)(hz:qP P et=some (.int .i64 0))(hn:s.h.get n=some (bM m))(cZ:Nat.blt n s.nx=true):(dP P<|.lookup ty x i true).val SG t s= .ok (.tuple [.int .i64 (if lO m k=true then getM m k else 0),.bool<|lO m k]) (bc n s):=by
 show xO P ty x i true SG t s=_;unfold xO;rw[hx,hi,bY,bY];unfold zM;simp only[hu];have hf:zT P kt (.int .i64 k) (.map<|some n) s= .ok (di m) (bc n s):=by
  show((bz n).bind fun o=>match o with
   | .map es _=>M.pure es
   | .lH es=>aF (or (plainKey P kt<|.int .i64 k)<|short es) <| M.pure es
   |_=>fail) s=_
  rw[M.bO<|lY cZ hn];show(aF (or (plainKey P kt<|.int .i64 k)<|short<|di m) <| M.pure<|di m) (bc n s)=_;rw[hp,show(or true<|short<|di m)=true from rfl,dA];rfl
 rw[M.bO hf,hk,dA];have RN:findKey P kt (.int .i64 k) (di m)=lf (.int .i64 k) (di m) 0:=by unfold findKey;simp only[uS,hp]
 rw[RN];rcases U0 k m 0 with⟨h1,h2⟩|⟨j,h1,h2⟩
 ·rw[h2,bY,h1];show(aC (qP P et) fun z=>M.pure<|AR true z false) (bc n s)=_;rw[hz,bY];rfl
 ·rw[h2,bY,h1];rfl
theorem agG{y:Operand}{v:Int}{m:List<|Int×Int}(hx:aK t x=some (.map<|some n))(hi:aK t i=some (.int .i64 k))(hy:aK t y=some (.int .i64 v))(hu:P.underlying ty=some (.map kt et))(hk:o8 P 10000 kt (.int .i64 k)=true)(hp:plainKey P kt (.int .i64 k)=true)(hn:s.h.get n=some (bM m))(q1:Nat.blt n s.nx=true)(q2:Nat.blt n top=true):(dP P<|.mapUpdate ty x i y).val SG t s= .ok (.tuple []) (fB n (some<|bM<|gD m k v)<|bc n s):=by
 show qK P ty x i y SG t s=_;unfold qK;rw[hx,hi,hy,bY,bY,bY];have w:∀o:ae,bN n (some o) (bc n s)= .ok () (fB n (some o)<|bc n s):=fun o=>xP (by rw[(fN n s).2.1];exact q1) (by rw[(fN n s).1];exact hn) rfl q2;have ajZ:xY P ty (.map<|some n) (.int .i64 k) (.int .i64 v) s= .ok () (fB n (some<|bM<|gD m k v)<|bc n s):=by
  unfold xY;simp only[hu];rw[M.bO<|lY q1 hn];show(aF (and (plainKey P kt<|.int .i64 k)<|o8 P 10000 kt<|.int .i64 k) <| aC (findKey P kt (.int .i64 k)<|di m) fun f=>By n (.int .i64 k) (.int .i64 v) (di m) f) (bc n s)=_;rw[hk,hp,show(and true true)=true from rfl,dA];have RN:findKey P kt (.int .i64 k) (di m)=lf (.int .i64 k) (di m) 0:=by unfold findKey;simp only[uS,hp]
  rw[RN];rcases UU k m 0 with⟨h1,_,h3⟩|⟨j,z,h1,_,h3,h4⟩
  ·rw[h1,bY];show bN n (some<|.lH<|di m++[(.int .i64 k,.int .i64 v)]) (bc n s)=_;rw[w,h3 v];simp only[bM,di,List.map_append,List.map_cons,List.map_nil]
  ·rw[h1,bY];show bN n (some<|.lH<|putAt (di m) (0+j) (.int .i64 k)<|.int .i64 v) (bc n s)=_;rw[Nat.zero_add,w,(h4 v).1];rfl
 rw[M.bO ajZ];rfl
end
end Go.Rn
namespace Go.Rn
open Go.RowKit
variable {n k:Nat} {l L2 L1:List AV} {y x:Operand} {ty e:TypeId} {ts:Array TypeId} {i:TypeInfo} {sw:cR}
section
variable {P:Program} {s:AS} {SG:aO} {t:Tr AV}
theorem Uh{s:AS}(h1:Nat.blt n s.nx=true)(h2:s.h.get n=some (.cells l.length (Tr.fill l 0 .nil) []))(hl:l.length<=top)(hk:k<=l.length):
 ∃rd,(∀x∈rd,x=n\/x∈s.rd)/\(s.mark=0->rd=s.rd)/\jd n 0 k s= .ok (l.take k) ⟨s.h,s.nx,s.mark,rd,s.wr⟩:=by
 cases k with
 |zero=>exact⟨s.rd,fun x h=>.inr h,fun _=>rfl,rfl⟩
 |succ k=>
  have hr:=DI (n:=n) (off:=0) (k:=k+1) (l:=l) (s:=s) h1 h2 hl (Nat.succ_pos _) ak;rw[List.drop_zero] at hr;refine⟨(bc n s).rd,?_,fun hm=>?_,?_⟩
  ·intro k h;unfold bc at h;cases q:Nat.blt n s.mark with
   |false=>rw[q] at h;exact .inr h
   |true=>rw[q] at h;rcases List.mem_cons.1 h with h|h;exact .inl h;exact .inr h
  ·unfold bc;rw[hm,show Nat.blt n 0=false from by cases q:Nat.blt n 0 with|false=>rfl|true=>have:=(blt_eq _ _).mp q;omega]
  ·rw[hr];congr 1;unfold bc;cases Nat.blt n s.mark<;>rfl
theorem agH{m len:Nat}(hx:aK t x=some (.slice (some (n,0)) len<|.known len))(hy:aK t y=some (.slice (some (m,0)) k sw))(h0:ts[0]? =some ty)(hu:P.underlying ty=some (.slice e))(hi:P.info? e=some i)(hz:and (tO i) (pV P ts[1]?)=true)(hk:1<=k)(hn:s.h.get n=some (.cells L1.length (Tr.fill L1 0 .nil) []))(hm:s.h.get m=some (.cells L2.length (Tr.fill L2 0 .nil) []))(Mj:L1.length<=top)(yX:L2.length<=top)(h1:len*i.size<=L1.length)(h2:k*i.size<=L2.length)(he:L1.take (len*i.size)++L2.take (k*i.size)=l)(cZ:(Nat.blt n s.nx&&(Nat.blt m s.nx&&Nat.blt s.nx top))=true)(wx:l.all AV.cj=true)(hb:Nat.beq i.bytes 0=false)(ux:2*(len+k)*i.bytes+4096*i.bytes<=room)(lz:l.length<=top):
 ∃rd wr,(∀q∈rd,q=n\/q=m\/q∈s.rd)/\(∀q∈wr,q∈s.wr)/\(s.mark=0->rd=s.rd/\wr=s.wr)/\(dP P<|.call ⟨.builtin .append, #[x,y],ts⟩).val SG t s= .ok (.slice (some (s.nx,0)) (len+k)<|.ar (len+k) i.size) ⟨s.h.put s.nx<|some<|.cells l.length (Tr.fill l 0 .nil) [],s.nx+1,s.mark,rd,wr⟩:=by
 obtain⟨fC,cZ⟩:=and_true.1 cZ;obtain⟨eF,Dc⟩:=and_true.1 cZ;have CD:=(blt_eq _ _).mp Dc;have hf:firstCells i.size k (.slice (some (m,0)) k sw) s=jd m 0 (k*i.size) s:=by
  cases k with
  |zero=>omega
  |succ k=>cases sw<;>rfl
 obtain⟨gu,a1,a2,a3⟩:=Uh eF hm yX h2;obtain⟨AT,b1,b2,b3⟩:=Uh (s:=⟨s.h,s.nx,s.mark,gu,s.wr⟩) fC hn Mj h1;refine⟨AT,s.wr,fun q hq=>?_,fun q hq=>hq,fun AU=>⟨(b2 AU).trans<|a2 AU,rfl⟩,?_⟩
 ·rcases b1 q hq with h|h
  ·exact .inl h
  ·exact .inr<|a1 q h
 show oK P .append ts [x,y] SG t s=_;unfold oK;have mL:jR (aK t) [x,y]=some [.slice (some (n,0)) len<|.known len,.slice (some (m,0)) k sw]:=by simp only[jR,hx,hy]
 rw[mL,bY];show pR P ts (.slice (some (n,0)) len<|.known len) (.slice (some (m,0)) k sw) s=_;unfold pR;rw[h0,bY];simp only[hu];rw[hi,bY,hz,dA];show(aC (some k) fun Dd=>(firstCells i.size Dd<|.slice (some (m,0)) k sw).bind fun new=>aF (Nat.beq new.length<|Dd*i.size) <| rR i.size i.bytes (some (n,0)) len (.known len) Dd new) s=_;rw[bY,M.bO<|hf.trans a3];have Qn:(L2.take<|k*i.size).length=k*i.size:=by rw[List.length_take];omega
 rw[Qn,eB.2 rfl,dA];unfold rR;have HZ:Nat.ble (len+k) len=false:=by cases q:Nat.ble (len+k) len with|false=>rfl|true=>have:=aL.1 q;omega
 simp only[HZ];have RP:firstCells i.size len (.slice (some (n,0)) len<|.known len) ⟨s.h,s.nx,s.mark,gu,s.wr⟩=jd n 0 (len*i.size) ⟨s.h,s.nx,s.mark,gu,s.wr⟩:=by cases len<;>rfl
 rw[M.bO<|RP.trans b3];unfold grown;rw[show(and (Nat.ble (2*(len+k)*i.bytes+4096*i.bytes) room)<|not<|Nat.beq i.bytes 0)=true from and_true.2 ⟨aL.2 ux,by rw[hb];rfl⟩,dA,he];have wz:=JD (s:=⟨s.h,s.nx,s.mark,AT,s.wr⟩) (l:=l) lz wx CD;exact(M.bO wz).trans rfl
noncomputable def ql(o:ae)(s:AS):AS:=⟨s.h.put s.nx<|some o,s.nx+1,s.mark,s.rd,s.wr⟩
theorem agI{m len:Nat}(hx:aK t x=some (.slice (some (n,0)) len<|.known len))(hy:aK t y=some (.slice (some (m,0)) k sw))(h0:ts[0]? =some ty)(hu:P.underlying ty=some (.slice e))(hi:P.info? e=some i)(hz:and (tO i) (pV P ts[1]?)=true)(hlen:1<=len)(hk:1<=k)(hs:1<=i.size)(hn:s.h.get n=some (.cells L1.length (Tr.fill L1 0 .nil) []))(hm:s.h.get m=some (.cells L2.length (Tr.fill L2 0 .nil) []))(Mj:L1.length<=top)(yX:L2.length<=top)(h1:len*i.size<=L1.length)(h2:k*i.size<=L2.length)(he:L1.take (len*i.size)++L2.take (k*i.size)=l)(cZ:(Nat.blt n s.nx&&(Nat.blt m s.nx&&Nat.blt s.nx top))=true)(wx:l.all AV.cj=true)(hb:Nat.beq i.bytes 0=false)(ux:2*(len+k)*i.bytes+4096*i.bytes<=room)(lz:l.length<=top):
 (dP P<|.call ⟨.builtin .append, #[x,y],ts⟩).val SG t s= .ok (.slice (some (s.nx,0)) (len+k)<|.ar (len+k) i.size) (ql (.cells l.length (Tr.fill l 0 .nil) [])<|bc n<|bc m s):=by
 obtain⟨fC,cZ⟩:=and_true.1 cZ;obtain⟨eF,Dc⟩:=and_true.1 cZ;have CD:=(blt_eq _ _).mp Dc;have hf:firstCells i.size k (.slice (some (m,0)) k sw) s=jd m 0 (k*i.size) s:=by
  cases k with
  |zero=>omega
  |succ k=>cases sw<;>rfl
 have p1:0<k*i.size:=Nat.mul_pos ak ak;have p2:0<len*i.size:=Nat.mul_pos ak ak;have a3:=DI (n:=m) (off:=0) (k:=k*i.size) (l:=L2) (s:=s) eF hm yX p1 ak;have b3:=DI (n:=n) (off:=0) (k:=len*i.size) (l:=L1) (s:=bc m s) (by rw[(fN m s).2.1];exact fC) (by rw[(fN m s).1];exact hn) Mj p2 ak;rw[List.drop_zero] at a3 b3;show oK P .append ts [x,y] SG t s=_;unfold oK;have mL:jR (aK t) [x,y]=some [.slice (some (n,0)) len<|.known len,.slice (some (m,0)) k sw]:=by simp only[jR,hx,hy]
 rw[mL,bY];show pR P ts (.slice (some (n,0)) len<|.known len) (.slice (some (m,0)) k sw) s=_;unfold pR;rw[h0,bY];simp only[hu];rw[hi,bY,hz,dA];show(aC (some k) fun Dd=>(firstCells i.size Dd<|.slice (some (m,0)) k sw).bind fun new=>aF (Nat.beq new.length<|Dd*i.size) <| rR i.size i.bytes (some (n,0)) len (.known len) Dd new) s=_;rw[bY,M.bO<|hf.trans a3];have Qn:(L2.take<|k*i.size).length=k*i.size:=by rw[List.length_take];omega
 rw[Qn,eB.2 rfl,dA];unfold rR;have HZ:Nat.ble (len+k) len=false:=by cases q:Nat.ble (len+k) len with|false=>rfl|true=>have:=aL.1 q;omega
 simp only[HZ];have RP:firstCells i.size len (.slice (some (n,0)) len<|.known len) (bc m s)=jd n 0 (len*i.size) (bc m s):=by
  cases len with
  |zero=>omega
  |succ k=>rfl
 rw[M.bO<|RP.trans b3];unfold grown;rw[show(and (Nat.ble (2*(len+k)*i.bytes+4096*i.bytes) room)<|not<|Nat.beq i.bytes 0)=true from and_true.2 ⟨aL.2 ux,by rw[hb];rfl⟩,dA,he];have cJ:(bc n<|bc m s).nx=s.nx:=by rw[(fN n _).2.1,(fN m _).2.1]
 have wz:=JD (s:=bc n<|bc m s) (l:=l) lz wx (by rw[cJ];exact CD);rw[cJ] at wz;refine(M.bO wz).trans ?_;unfold ql;rw[cJ];rfl
end
end Go.Rn
namespace Go.Rn
open Go.RowKit
variable {n k o U off:Nat} {v:AV} {x:TypeId×Operand×Operand} {cs:List AV} {α:Type} {B:aI} {rs:List ResultVar} {ik:IntKind} {cap:cR} {ag b:Bool} {a:Nat×Nat} {T A c X:Prop} {x':dD} {ty:TypeId} {sp:Sp} {l:List<|Nat×AV} {Q:Tr AV->List Nat->Option Code->AS->Prop} {F:Nat->Option (List AV)}
noncomputable section
inductive Pl where
 |no
 |st (k:Nat) (p:Pl)
 |rg (p:Pl)
 |go (n:Nat) (p:Pl)
 |en (p:Pl)
 |fk (p q:Pl)
 |vl (v:AV) (p:Pl)
 |kn (v:AV) (p:Pl)
 |kp (c:Prop) (d:Decidable c) (p q:Pl)
 |cu (v:AV) (s2:AS) (p:Pl)
 |cg (v:AV) (F:AS->AS) (Q:AS->Prop) (p:Pl)
 |ap (α:Type) (enc:α->List AV) (l:List α) (c:α) (p:Pl)
 |al (α:Type) (enc:α->List AV) (l L:List α) (p:Pl)
 |sf (lo hi:Int) (p:Pl)
 |ix (p:Pl)
 |eG (p:Pl)
 |ld (cs:List AV) (p:Pl)
 |Zg (b:Bool) (p q:Pl)
 |eH (cs:List AV) (p:Pl)
 |s8 (o:ae) (p:Pl)
 |rm (p:Pl)
 |ls (l:List<|Nat×AV) (o:List<|Nat×Option ae) (nx:Nat) (p:Pl)
 |rn (l0:List<|Nat×AV) (o0:List<|Nat×Option ae) (l:List<|Nat×AV) (o:List<|Nat×Option ae) (bG nx:Nat) (p:Pl)
 |bk (l:List<|Nat×AV) (o:List<|Nat×Option ae) (nx:Nat) (p:Pl)
 |cy (v:AV) (s2:AS) (p:Pl)
 |De (p:Pl)
 |kt (y v':AV) (p:Pl)
 |nt (v:Option AV) (res:AV->AV) (p:Pl)
 |Zh (m:List<|Int×Int) (p q:Pl)
 |Mw (m:List<|Int×Int) (p:Pl)
 |so (p:Pl)
 |s3 (p:Pl)
 |ao (L1 L2 l:List AV) (p:Pl)
 |an (L1 L2 l:List AV) (p:Pl)
 |il (p:Pl)
 |rt (k:Nat) (p:Pl)
 |cut (p:Pl)
inductive Mx where
 |fr (f nt:Nat) (K:List Item) (t:Tr AV) (s:AS)
 |rg (f nt:Nat) (K:List Item) (ops:Array Oper) (D:Option<|List dD) (i:Nat) (t:Tr AV) (s:AS)
structure Env where
 P:Program
 sp:Sp
 F:Nat->Option (List AV)
 u0:FuncId->Option (List AV->Option AV)
 jn:FuncId->Bool
 ck:AS->Bool
 cs:AS->AS
 lo:Nat
 fg:Bool
 tt:FuncId->Option (Nat×(AV->List AV->Option (AV×AV)))
 tn:FuncId->Option (Nat×(List AV->Option (Option AV×(AV->AV))))
 n0:Nat
def yI(nx:Nat)(l:List<|Nat×AV)(o:List<|Nat×Option ae):Prop:=∀r:Nat->Nat,(∀k,k<nx->r k=k)->(∀k,top<=k->r k=k)->(∀p∈l,bA r p.2 p.2)/\(∀p∈o,∀x,p.2=some x->su r x x)
def gY(F:Nat->Option (List AV))(lo bG:Nat)(l0:List<|Nat×AV)(o0:List<|Nat×Option ae)(l:List<|Nat×AV)(o:List<|Nat×Option ae)(nx:Nat):Prop:=
 ∃(fz:lN) (r:Nat->Nat),(∀k,k<lo->r k=k)/\(∀k,nx<=k->k<top->bG<=r k/\r k<top)/\(∀k,top<=k->r k=k)/\nx<=top/\(∀p∈l,p.1<top/\∃x,(p.1,x)∈l0/\lJ fz r x p.2)/\
  (∀p∈o,p.1<top/\∀y,p.2=some y->r p.1<top/\y.l7=true/\∃x,(r p.1,some x)∈o0/\fm x y/\fI fz r x y)/\
  (∀p∈o,∀q∈o,p.2≠none->q.2≠none->r p.1=r q.1->p.1=q.1)/\
  (∀p∈fz,p.1<top/\F p.2.1=some p.2.2/\∃N t z,(p.1,some<|.cells N t z)∈o0/\∀i x,p.2.2[i]? =some x->i<N/\cellAt t z i=some x/\x.cj=true/\x.cq=true)/\
  (∀p∈fz,∀q∈o,q.2≠none->r q.1≠p.1)
def Zi(n k:Nat)(v:AV)(s:AS):AS:=fB n (some<|.tok k v)<|bc n s
def nwS(k:Nat)(v:AV)(s:AS):AS:=⟨s.h.put s.nx<|some<|.tok k v,s.nx+1,s.mark,s.rd,s.wr⟩
def Zj(res:AV->AV)(s:AS):Option AV->AV
 |none=>res<|.ptr none
 |some _=>res<|.ptr<|some (s.nx,0)
def Zk(k:Nat)(s:AS):Option AV->AS
 |none=>s
 |some v=>nwS k v s
structure Env.Ok (E:Env):Prop where
 u0:∀g val args v s n,E.u0 g=some val->val args=some v->E.ck s=true->bh E.P E.sp E.F (n+1) (.fn g) args s= .ok v (E.cs s)
 tt:∀g q m v rest y v' s n,E.tt g=some q->E.ck s=true->Nat.ble E.n0 m=true->Nat.blt m (E.cs s).nx=true->Nat.blt m top=true->(E.cs s).h.get m=some (.tok q.1 v)->q.2 v rest=some (y,v')->
  bh E.P E.sp E.F (n+1) (.fn g) (.ptr (some (m,0))::rest) s= .ok y (Zi m q.1 v'<|E.cs s)
 tn:∀g q args v res s n,E.tn g=some q->E.ck s=true->Nat.blt (E.cs s).nx top=true->q.2 args=some (v,res)->bh E.P E.sp E.F (n+1) (.fn g) args s= .ok (Zj res (E.cs s) v) (Zk q.1 (E.cs s) v)
 jn:∀g,E.jn g=true->False
def wo(o:Option α)(k:α->Prop):Prop:= @Option.rec α (fun _=>Prop) False k o
def wr(r:R α)(k:α->AS->Prop):Prop:= @R.rec α (fun _=>Prop) False k r
def wb(b:Bool)(k:Prop):Prop:= @Bool.rec (fun _=>Prop) False k b
def Kt:=AV->AS->Pl->Prop
def AB:=AF->AS->Pl->Prop
def Rec:=Nat->Mx->Pl->List ResultVar->Kt->AB->Prop
def JP(op:Op):Option<|BinOp×TypeId×Operand×Operand×TypeId:=match op with
 | .binOp o ty x y yt=>some (o,ty,x,y,yt)
 |_=>none
def callParts(op:Op):Option<|Operand×Array Operand×Array TypeId:=match op with
 | .call ⟨.value fo,xs,ts⟩=>some (fo,xs,ts)
 |_=>none
def QQ(fi args ca:List AV):List AV:=match fi,ca with
 |[],[]=>args
 |_,_=>fi++args++ca
def QR(v:AV):Option<|FuncId×List AV×List AV:=match v with
 | .func (.func g) fi ca=>some (g,fi,ca)
 |_=>none
def asInt(v:AV):Option<|IntKind×Int:=match v with
 | .int k n=>some (k,n)
 |_=>none
def asSlice(v:AV):Option<|Option (Nat×Nat)×Nat×cR:=match v with
 | .slice a n c=>some (a,n,c)
 |_=>none
def Qo(x:bt):Option<|Nat×Nat×List Item×Tr AV:=match x with
 | .go ⟨f,t,nt,K,[],none⟩=>some (f,nt,K,t)
 |_=>none
def Qp(x:bt):Option<|AF×Option Code:=match x with
 | .leave fr j=>some (fr,j)
 |_=>none
def Pe(K:List Item):Option<|Array Oper×Bool×List Item:=match K with
 | .code (.region _ ops d)::K=>some (ops,d,K)
 |_=>none
def QS(o:BinOp)(a b:Int):Option Prop:=match o with
 | .lss=>some<|a<b
 | .leq=>some<|a<=b
 | .gtr=>some<|a>b
 | .geq=>some<|a>=b
 | .eql=>some<|a=b
 | .neq=>some<|a≠b
 |_=>none
def iE(D:Option<|List dD)(s:AS):AS:=match D with
 |none=>s
 |some _=>Kw s
def Fm(D:Option<|List dD)(s s1:AS):AS:=match D with
 |none=>s1
 |some _=>EP s s1
def LY(D:Option<|List dD)(i:Nat)(s s1:AS):Option<|List dD:=match D with
 |none=>none
 |some acc=>some<|acc++[LX i s s1]
def Xw(d:Bool):Option<|List dD:=match d with
 |true=>some []
 |false=>none
def QT(P:Program)(SG:aO)(nt:Nat)(ops:Array Oper)(D:Option<|List dD)(i n:Nat)(t:Tr AV):M<|Tr AV×Option (List dD):=match D with
 |none=>fun s=>match p0 P SG nt ops i n t s with
  | .ok t s=>.ok (t,none) s
  | .bad=>.bad
 |some acc=>fun s=>match uE P SG nt ops i n t s with
  | .ok x s=>.ok (x.1,some<|acc++x.2) s
  | .bad=>.bad
def Lr(ops:Array Oper)(D:Option<|List dD):Bool:=match D with
 |none=>true
 |some acc=>qQ (Region.before ops) acc acc
def ER(n:Nat):Option Nat:=match n with
 |0=>none
 |n+1=>some n
def vN(t:Tr AV)(op:Op):Option<|FuncId×List AV:=match callParts op with
 |none=>none
 |some x=>match aK t x.1 with
  |none=>none
  |some fv=>match QR fv with
   |none=>none
   |some g=>match jR (aK t) x.2.1.toList with
    |none=>none
    |some args=>some (g.1,QQ g.2.1 args g.2.2)
def Pf(t:Tr AV)(op:Op):Option<|Nat×List AV:=match callParts op with
 |none=>none
 |some x=>match aK t x.1 with
  |some (.yield l)=>(match jR (aK t) x.2.1.toList with
   |none=>none
   |some args=>some (l,args))
  |_=>none
def GQ(op:Op):Option<|TypeId×Operand×Operand:=match op with
 | .indexAddr ty x y=>some (ty,x,y)
 |_=>none
def Gw(op:Op):Option<|TypeId×Operand:=match op with
 | .load ty a=>some (ty,a)
 |_=>none
def NG(op:Op):Option<|TypeId×Operand×Operand:=match op with
 | .store ty a x=>some (ty,a,x)
 |_=>none
def D0(op:Op):Option<|Operand×Operand×Array TypeId:=match op with
 | .call ⟨.builtin .append,xs,ts⟩=>match xs.toList with
  |[x,y]=>some (x,y,ts)
  |_=>none
 |_=>none
def QU(v:AV):Option<|Nat×Nat×Nat×Nat:=match v with
 | .slice (some (n,0)) len (.ar m k)=>some (n,len,m,k)
 |_=>none
def PK(v:AV):Option Nat:=match v with
 | .slice (some (m,0)) 1 (.known 1)=>some m
 |_=>none
def D1(P:Program)(ts:Array TypeId):Option<|Nat×Nat:=match ts[0]? with
 |some ty=>match P.underlying ty with
  |some (.slice e)=>match P.info? e with
   |some i=>match tO i&&(pV P ts[1]? && !(Nat.beq i.bytes 0)) with
    |true=>some (i.size,i.bytes)
    |false=>none
   |none=>none
  |_=>none
 |none=>none
def HB(v:AV):Option<|Nat×Nat×Nat:=match v with
 | .ab n o k=>some (n,o,k)
 |_=>none
def PL(v:AV):Option<|Nat×Nat:=match v with
 | .qf n o=>some (n,o)
 |_=>none
def oY(P:Program)(ty:TypeId):Option Nat:=match P.underlying ty with
 |some (.slice e)=>eD P e
 |_=>none
def Qq(P:Program)(ty:TypeId):Option<|Nat×Nat:=match P.underlying ty with
 |some (.array n e)=>(eD P e).map fun k=>(n,k)
 |_=>none
def cellsOf(o:Option ae)(off k:Nat):Option<|List AV:=match o with
 |some (.cells m t z)=>(match Nat.ble (off+k) m with|true=>l6 t z k off|false=>none)
 |_=>none
def wa(o:Option ae)(off:Nat)(l:List AV):Option ae:=match o with
 |some (.cells m t z)=>(match (Nat.ble (off+l.length) m&&(Nat.ble m top&&l.all AV.cj)) with|true=>some (.cells m (Tr.fill l off t) z)|false=>none)
 |_=>none
def cx(F:Nat->Option (List AV))(n off k:Nat):Option<|List AV:=match F n with
 |some l=>(match Nat.ble (off+k) l.length with|true=>some ((l.drop off).take k)|false=>none)
 |none=>none
def yq(k:Nat):Bool:=Nat.blt 0 k
def H4(ag:Bool)(cs:List AV):Option AV:=match ag with
 |true=>some<|.agg cs
 |false=>one cs
def He(P:Program)(ty:TypeId)(ag:Bool):Option Nat:=match ag with
 |true=>eD P ty
 |false=>some 1
def Kx(o:Option ae):Bool:=match o with
 |none=>true
 |some o=>o.l7
def LZ(dr:Bool)(s:AS)(h:Tr ae)(R W:List Nat):AS:=match dr with
 |true=>⟨h,s.nx+1,s.mark,R,W⟩
 |false=>⟨h,s.nx+1,s.mark,s.rd,s.wr⟩
def yJ(v:AV):Option<|Nat×Nat×cR:=match v with
 | .slice (some (n,0)) len cap=>some (n,len,cap)
 |_=>none
def Jr(op:Op):Option<|TypeId×Operand×Option Operand×Option Operand:=match op with
 | .slice ty x lo hi none=>some (ty,x,lo,hi)
 |_=>none
def Nv(op:Op):Option<|TypeId×Operand×Operand×Operand:=match op with
 | .slice ty x none (some hi) (some mx)=>some (ty,x,hi,mx)
 |_=>none
def kept(c:cR):Bool:=match c with
 | .lost=>false
 |_=>true
def vP(t:Tr AV)(o:Option Operand)(d:Int):Option Int:=match o with
 |none=>some d
 |some y=>match aK t y with
  |some (.int _ n)=>some n
  |_=>none
def anC(op:Op):Option<|TypeId×Operand×Operand:=match op with
 | .lookup ty x i false=>some (ty,x,i)
 |_=>none
def NH(op:Op):Option<|TypeId×Operand×Operand:=match op with
 | .lookup ty x i true=>some (ty,x,i)
 |_=>none
def OI(op:Op):Option<|TypeId×Operand×Operand×Operand:=match op with
 | .mapUpdate ty x i y=>some (ty,x,i,y)
 |_=>none
def Ls(v:AV):Option Nat:=match v with
 | .map (some n)=>some n
 |_=>none
def Ky(P:Program)(ty:TypeId):Option<|TypeId×TypeId:=match P.underlying ty with
 |some (.map k e)=>some (k,e)
 |_=>none
def HC(k:IntKind):Bool:=match k with
 | .i64=>true
 |_=>false
def QV(v:Option AV):Bool:=match v with
 |some (.int .i64 (.ofNat 0))=>true
 |_=>false
def Pg(l:List AV):Option<|Nat×List AV:=match l with
 | .ptr (some (n,0))::r=>some (n,r)
 |_=>none
def Qr(o:Option ae):Option<|Nat×AV:=match o with
 |some (.tok k v)=>some (k,v)
 |_=>none
def Zl(E:Env)(dr:Bool)(ih:Rec)(n:Nat)(nx:AV->AS->Pl->Prop)(s:AS)(t:Tr AV)(op:Op)(p:Pl):Prop:=match p with
 | .fk p q=>wo (JP op) fun x=>wo (aK t x.2.2.1) fun a=>wo (aK t x.2.2.2.1) fun b=>wo (asInt a) fun a=>wo (asInt b) fun b=>wb (decide<|a.1=b.1)<|wo (QS x.1 a.2 b.2) fun c=>(c->nx (.bool true) s p)/\(¬c->nx (.bool false) s q)
 | .vl v p=>wr ((dP E.P op).val (bh E.P E.sp E.F n) t s) fun v' s1=>v'=v/\nx v s1 p
 | .kn v p=>wo (vN t op) fun x=>wo (ER n) fun _=>wo (E.u0 x.1) fun val=>wb (E.ck s)<|val x.2=some v/\nx v (E.cs s) p
 | .kp c d p q=>wo (vN t op) fun x=>wo (ER n) fun _=>wo (E.u0 x.1) fun val=>wb (E.ck s)<|val x.2=some (.bool<|@decide c d)/\(c->nx (.bool true) (E.cs s) p)/\(¬c->nx (.bool false) (E.cs s) q)
 | .cu v s2 p=>wo (vN t op) fun x=>bh E.P E.sp E.F n (.fn x.1) x.2 s= .ok v s2/\nx v s2 p
 | .cg v F Q p=>wo (vN t op) fun x=>(∀s,Q s->bh E.P E.sp E.F n (.fn x.1) x.2 s= .ok v (F s))/\Q s/\nx v (F s) p
 | .ap _ enc l c p=>wo (D0 op) fun x=>wo (aK t x.1) fun a=>wo (QU a) fun a=>wo (aK t x.2.1) fun b=>wo (PK b) fun m=>wo (D1 E.P x.2.2) fun i=>wb (Nat.beq a.2.2.2 i.1&&(yq i.1&&(Nat.blt a.1 s.nx&&(Nat.blt m s.nx&&(Nat.blt s.nx top&&(dr||Nat.beq s.mark 0))))))<|a.2.1=l.length/\a.2.2.1=l.length/\s.h.get a.1=some (aJ enc l)/\s.h.get m=some (.cells (enc c).length (Tr.fill (enc c) 0 .nil) [])/\(∀x,(enc x).length=i.1/\(enc x).all AV.cj=true)/\2*(l.length+1)*i.2+4096*i.2<=room/\(l.length+1)*i.1<=top/\nx (.slice (some (s.nx,0)) (l++[c]).length<|.ar (l++[c]).length i.1) (LZ dr s ((s.h.put a.1 none).put s.nx<|some<|aJ enc<|l++[c]) [a.1,m] [a.1]) p
 | .ix p=>wo (GQ op) fun x=>wo (aK t x.2.1) fun a=>wo (asSlice a) fun a=>wo a.1 fun ad=>wo (aK t x.2.2) fun z=>wo (asInt z) fun z=>wo (oY E.P x.1) fun K=>wb (Nat.beq ad.2 0)<|0<=z.2/\z.2<(Int.ofNat a.2.1)/\nx (.ptr<|some (ad.1,z.2.toNat*K)) s p
 | .eG p=>wo (GQ op) fun x=>wo (aK t x.2.1) fun a=>wo (HB a) fun a=>wo (aK t x.2.2) fun z=>wo (asInt z) fun z=>wo (oY E.P x.1) fun K=>0<=z.2/\z.2<(Int.ofNat a.2.2)/\nx (.qf a.1<|a.2.1+z.2.toNat*K) s p
 | .ld cs p=>wo (Gw op) fun x=>wo (aK t x.2) fun a=>wo (addrOf a) fun a=>wo (qZ E.P x.1) fun ag=>wo (He E.P x.1 ag) fun k=>wb (yq k)<|wb (Nat.blt a.1 s.nx)<|wo (H4 ag cs) fun v=>cellsOf (s.h.get a.1) a.2 k=some cs/\nx v (bc a.1 s) p
 | .Zg b p q=>wo (Gw op) fun x=>wo (aK t x.2) fun a=>wo (addrOf a) fun a=>wo (qZ E.P x.1) fun ag=>wb (!ag)<|wb (Nat.blt a.1 s.nx)<|cellsOf (s.h.get a.1) a.2 1=some [.bool b]/\(b=true->nx (.bool true) (bc a.1 s) p)/\(b=false->nx (.bool false) (bc a.1 s) q)
 | .eH cs p=>wo (Gw op) fun x=>wo (aK t x.2) fun a=>wo (PL a) fun a=>wo (qZ E.P x.1) fun ag=>wo (eD E.P x.1) fun _=>wo (He E.P x.1 ag) fun k=>wo (H4 ag cs) fun v=>top<=a.1/\cx E.F a.1 a.2 k=some cs/\nx v s p
 | .s8 o p=>wo (NG op) fun x=>wo (aK t x.2.1) fun a=>wo (addrOf a) fun a=>wo (aK t x.2.2) fun v=>wo (eD E.P x.1) fun k=>wb (Nat.beq v.cells.length k)<|wb (yq k)<|wb (Nat.blt a.1 s.nx)<|wb (Nat.blt a.1 top)<|wa (s.h.get a.1) a.2 v.cells=some o/\nx nq (fB a.1 (some o)<|bc a.1 s) p
 | .rm p=>wo (JP op) fun x=>wb (match x.1 with| .rem=>true|_=>false)<|wo (aK t x.2.2.1) fun a=>wo (aK t x.2.2.2.1) fun b=>wo (asInt a) fun a=>wo (asInt b) fun b=>wb (decide<|a.1=b.1)<|b.2≠0/\nx (.int a.1<|Int.tmod a.2 b.2) s p
 | .al _ enc l L p=>wo (D0 op) fun x=>wo (aK t x.1) fun a=>wo (yJ a) fun a=>wo (aK t x.2.1) fun b=>wo (HB b) fun b=>wo (D1 E.P x.2.2) fun i=>wb (Qc i.1 a.2.1 a.2.2&&(Nat.blt a.1 s.nx&&(Nat.blt s.nx top&&(dr||Nat.beq s.mark 0))))<|a.2.1=l.length/\s.h.get a.1=some (aJ enc l)/\top<=b.1/\cx E.F b.1 b.2.1 (b.2.2*i.1)=some (L.map enc).flatten/\b.2.2=L.length/\(∀x,(enc x).length=i.1/\(enc x).all AV.cj=true)/\2*(l.length+L.length)*i.2+4096*i.2<=room/\(l.length+L.length)*i.1<=top/\nx (.slice (some (s.nx,0)) (l++L).length<|.ar (l++L).length i.1) (LZ dr s ((s.h.put a.1 none).put s.nx<|some<|aJ enc<|l++L) [a.1] [a.1]) p
 | .sf lo hi p=>wo (Jr op) fun x=>wo (aK t x.2.1) fun a=>wo (HB a) fun a=>wo (oY E.P x.1) fun K=>wo (vP t x.2.2.1 0) fun mQ=>wo (vP t x.2.2.2<|Int.ofNat a.2.2) fun iI=>mQ=lo/\iI=hi/\top<=a.1/\0<=lo/\lo<=hi/\hi<=(Int.ofNat a.2.2)/\nx (.ab a.1 (a.2.1+lo.toNat*K)<|hi.toNat - lo.toNat) s p
 | .cy v s2 p=>wo (Pf t op) fun x=>bh E.P E.sp E.F n (.round x.1) x.2 s= .ok v s2/\nx v s2 p
 | .De p=>wo (GQ op) fun x=>wo (aK t x.2.1) fun a=>wo (addrOf a) fun a=>wo (aK t x.2.2) fun z=>wo (asInt z) fun z=>wo (Qq E.P x.1) fun K=>0<=z.2/\z.2<(Int.ofNat K.1)/\nx (.ptr<|some (a.1,a.2+z.2.toNat*K.2)) s p
 | .kt y v' p=>wo (vN t op) fun x=>wo (ER n) fun _=>wo (E.tt x.1) fun q=>wo (Pg x.2) fun z=>wo (Qr<|(E.cs s).h.get z.1) fun u=>wb (E.ck s&&(Nat.beq q.1 u.1&&(Nat.ble E.n0 z.1&&(Nat.blt z.1 (E.cs s).nx&&Nat.blt z.1 top))))<|q.2 u.2 z.2=some (y,v')/\nx y (Zi z.1 q.1 v'<|E.cs s) p
 | .nt v res p=>wo (vN t op) fun x=>wo (ER n) fun _=>wo (E.tn x.1) fun q=>wb (E.ck s&&Nat.blt (E.cs s).nx top)<|q.2 x.2=some (v,res)/\nx (Zj res (E.cs s) v) (Zk q.1 (E.cs s) v) p
 | .Zh m p q=>wo (NH op) fun x=>wo (aK t x.2.1) fun a=>wo (Ls a) fun n=>wo (aK t x.2.2) fun i=>wo (asInt i) fun i=>wo (Ky E.P x.1) fun y=>wb (o8 E.P 10000 y.1 (.int .i64 i.2)&&(plainKey E.P y.1 (.int .i64 i.2)&&(HC i.1&&(QV (qP E.P y.2)&&Nat.blt n s.nx))))<|s.h.get n=some (bM m)/\(lO m i.2=true->nx (.tuple [.int .i64<|getM m i.2,.bool true]) (bc n s) p)/\(lO m i.2=false->nx (.tuple [.int .i64 0,.bool false]) (bc n s) q)
 | .Mw m p=>wo (OI op) fun x=>wo (aK t x.2.1) fun a=>wo (Ls a) fun n=>wo (aK t x.2.2.1) fun i=>wo (asInt i) fun i=>wo (aK t x.2.2.2) fun v=>wo (asInt v) fun v=>wo (Ky E.P x.1) fun y=>wb (o8 E.P 10000 y.1 (.int .i64 i.2)&&(plainKey E.P y.1 (.int .i64 i.2)&&(HC i.1&&(HC v.1&&(Nat.blt n s.nx&&Nat.blt n top)))))<|s.h.get n=some (bM m)/\nx (.tuple []) (fB n (some<|bM<|gD m i.2 v.2)<|bc n s) p
 | .so p=>wo (Jr op) fun x=>wo (aK t x.2.1) fun a=>wo (yJ a) fun a=>wo (oY E.P x.1) fun _=>wo (vP t x.2.2.1 0) fun lo=>wo (vP t x.2.2.2<|Int.ofNat a.2.1) fun hi=>wb (kept a.2.2)<|lo=0/\0<=hi/\hi<=Int.ofNat (jC a.2.1 a.2.2)/\nx (.slice (some (a.1,0)) hi.toNat a.2.2) s p
 | .s3 p=>wo (Nv op) fun x=>wo (aK t x.2.1) fun a=>wo (yJ a) fun a=>wo (oY E.P x.1) fun _=>wo (aK t x.2.2.1) fun hi=>wo (asInt hi) fun hi=>wo (aK t x.2.2.2) fun mx=>wo (asInt mx) fun mx=>wb (kept a.2.2)<|0<=hi.2/\hi.2<=mx.2/\mx.2<=Int.ofNat (jC a.2.1 a.2.2)/\nx (.slice (some (a.1,0)) hi.2.toNat<|.known mx.2.toNat) s p
 | .ao L1 L2 l p=>wo (D0 op) fun x=>wo (aK t x.1) fun a=>wo (yJ a) fun a=>wo (aK t x.2.1) fun b=>wo (yJ b) fun b=>wo (D1 E.P x.2.2) fun i=>wb (Nat.blt a.1 s.nx&&(Nat.blt b.1 s.nx&&(Nat.blt s.nx top&&(dr||Nat.beq s.mark 0))))
  (a.2.2= .known a.2.1/\1<=b.2.1/\s.h.get a.1=some (.cells L1.length (Tr.fill L1 0 .nil) [])/\s.h.get b.1=some (.cells L2.length (Tr.fill L2 0 .nil) [])/\L1.length<=top/\L2.length<=top/\a.2.1*i.1<=L1.length/\b.2.1*i.1<=L2.length/\
   L1.take (a.2.1*i.1)++L2.take (b.2.1*i.1)=l/\l.all AV.cj=true/\2*(a.2.1+b.2.1)*i.2+4096*i.2<=room/\l.length<=top/\
   nx (.slice (some (s.nx,0)) (a.2.1+b.2.1)<|.ar (a.2.1+b.2.1) i.1) (LZ dr s (s.h.put s.nx<|some<|.cells l.length (Tr.fill l 0 .nil) []) [a.1,b.1] []) p)
 | .an L1 L2 l p=>wo (D0 op) fun x=>wo (aK t x.1) fun a=>wo (yJ a) fun a=>wo (aK t x.2.1) fun b=>wo (yJ b) fun b=>wo (D1 E.P x.2.2) fun i=>wb (yq i.1&&(Nat.blt a.1 s.nx&&(Nat.blt b.1 s.nx&&Nat.blt s.nx top)))
  (a.2.2= .known a.2.1/\1<=a.2.1/\1<=b.2.1/\s.h.get a.1=some (.cells L1.length (Tr.fill L1 0 .nil) [])/\s.h.get b.1=some (.cells L2.length (Tr.fill L2 0 .nil) [])/\L1.length<=top/\L2.length<=top/\a.2.1*i.1<=L1.length/\b.2.1*i.1<=L2.length/\
   L1.take (a.2.1*i.1)++L2.take (b.2.1*i.1)=l/\l.all AV.cj=true/\2*(a.2.1+b.2.1)*i.2+4096*i.2<=room/\l.length<=top/\
   nx (.slice (some (s.nx,0)) (a.2.1+b.2.1)<|.ar (a.2.1+b.2.1) i.1) (ql (.cells l.length (Tr.fill l 0 .nil) [])<|bc a.1<|bc b.1 s) p)
 | .il p=>wo (vN t op) fun x=>wo (ER n) fun m=>match E.sp x.1 with
  |some _=>False
  |none=>wo (E.P.funcs[x.1]?) fun fn=>wo fn.body fun body=>wb (!(fn.name == "runtime.NumGoroutine"))<|wb (Nat.ble (max fn.ntmps x.2.length) top)<|ih m (.fr x.1 (max fn.ntmps x.2.length) [.code body] (eg x.2) s) p fn.results.toList nx fun _ _ _=>False
 |_=>False
def RQ(E:Env)(ih:Rec)(n:Nat)(c:Mx)(p:Pl)(rs:List ResultVar)(k:Kt)(C:AB):Prop:=match c with
 | .fr f nt K t s=>match p with
  | .st j p=>wr (eh E.P (bh E.P E.sp E.F n) j ⟨f,t,nt,K,[],none⟩ s) fun x s1=>wo (Qo x) fun y=>ih n (.fr y.1 y.2.1 y.2.2.1 y.2.2.2 s1) p rs k C
  | .rg p=>wo (Pe K) fun x=>ih n (.rg f nt x.2.2 x.1 (Xw x.2.1) 0 t s) p rs k C
  | .rt j p=>wr (eh E.P (bh E.P E.sp E.F n) j ⟨f,t,nt,K,[],none⟩ s) fun x s1=>wo (Qp x) fun y=>wr (finish E.P rs y.1 y.2 s1) fun v s2=>k v s2 p
  | .cut p=>C ⟨f,t,nt,K,[],none⟩ s p
  | .ls l o nx p=>wb (E.fg&&(qj top l&&(qj top o&&((Nat.ble s.nx nx&&Nat.ble nx top)&&o.all fun q=>Kx q.2))))<|l.map (fun q=>t.get q.1)=l.map (fun q=>some q.2)/\o.map (fun q=>s.h.get q.1)=o.map (fun q=>q.2)/\C ⟨f,aP l,nt,K,[],none⟩ (aj o nx) p
  | .rn l0 o0 l o bG nx p=>wb (E.fg&&Nat.beq s.nx bG)<|l0.map (fun q=>t.get q.1)=l0.map (fun q=>some q.2)/\o0.map (fun q=>s.h.get q.1)=o0.map (fun q=>q.2)/\gY E.F E.lo bG l0 o0 l o nx/\C ⟨f,aP l,nt,K,[],none⟩ (aj o nx) p
  | .bk l o nx p=>wb (E.fg&&(qj top l&&(qj nx o&&((Nat.ble nx s.nx&&(Nat.blt s.nx top&&Nat.ble E.lo nx))&&o.all fun q=>Kx q.2))))<|l.map (fun q=>t.get q.1)=l.map (fun q=>some q.2)/\o.map (fun q=>s.h.get q.1)=o.map (fun q=>q.2)/\yI nx l o/\C ⟨f,aP l,nt,K,[],none⟩ (aj o nx) p
  |_=>False
 | .rg f nt K ops D i t s=>match p with
  | .go m p=>wb (Nat.ble (i+m) ops.size)<|wr (QT E.P (bh E.P E.sp E.F n) nt ops D i m t s) fun x s1=>ih n (.rg f nt K ops x.2 (i+m) x.1 s1) p rs k C
  | .en p=>wb (Nat.ble ops.size i)<|wb (Lr ops D)<|ih n (.fr f nt K t s) p rs k C
  |p=>wo (yE ops i) fun o=>wb (Lq ops o.2.2 t)<|Zl E (D.isSome&&Nat.beq s.mark 0) ih n (fun v s1 p=>wo (jk nt t o.2.1 v) fun t1=>ih n (.rg f nt K ops (LY D i (s) s1) (i+1) t1<|Fm D s s1) p rs k C) (iE D s) t o.1 p
def wp(E:Env)(fuel:Nat):Rec:= @Nat.rec (fun _=>Rec) (fun _ _ _ _ _ _=>False) (fun _ ih=>RQ E ih) fuel
def mg(P:Program)(SG:aO)(G:AF->AS->Prop)(f nt:Nat)(K:List Item)(ops:Array Oper)(D:Option<|List dD)(i:Nat)(t:Tr AV)(s:AS):Prop:=match D with
 |none=>yG P SG G f nt K ops i t s
 |some acc=>rr P SG G f nt K ops acc i t s
def Gof(P:Program)(SG:aO)(G:AF->AS->Prop)(c:Mx):Prop:=match c with
 | .fr f nt K t s=>G ⟨f,t,nt,K,[],none⟩ s
 | .rg f nt K ops D i t s=>mg P SG G f nt K ops D i t s
end
theorem bf{o:Option α}{k:α->Prop}(h:wo o k):∃x,o=some x/\k x:=by
 cases o with
 |none=>exact h.elim
 |some x=>exact⟨x,rfl,h⟩
theorem Hf{r:R α}{k:α->AS->Prop}(h:wr r k):∃x s,r= .ok x s/\k x s:=by
 cases r with
 |bad=>exact h.elim
 |ok x s=>exact⟨x,s,rfl,h⟩
theorem gW{k:Prop}(h:wb b k):b=true/\k:=by
 cases b with
 |false=>exact h.elim
 |true=>exact⟨rfl,h⟩
theorem aeT(fi args ca:List AV):QQ fi args ca=fi++args++ca:=by
 unfold QQ;split
 ·simp
 ·rfl
theorem adA{g:FuncId×List AV×List AV}(h:QR v=some g):v= .func (.func g.1) g.2.1 g.2.2:=by
 unfold QR at h;split at h
 ·injection h with h;subst h;rfl
 ·cases h
theorem rT{x:IntKind×Int}(h:asInt v=some x):v= .int x.1 x.2:=by
 unfold asInt at h;split at h
 ·injection h with h;subst h;rfl
 ·cases h
theorem aa7{x:Option (Nat×Nat)×Nat×cR}(h:asSlice v=some x):v= .slice x.1 x.2.1 x.2.2:=by
 unfold asSlice at h;split at h
 ·injection h with h;subst h;rfl
 ·cases h
theorem acq{x:bt}{y:Nat×Nat×List Item×Tr AV}(h:Qo x=some y):x= .go ⟨y.1,y.2.2.2,y.2.1,y.2.2.1,[],none⟩:=by
 unfold Qo at h;split at h
 ·injection h with h;subst h;rfl
 ·cases h
theorem acr{x:bt}{y:AF×Option Code}(h:Qp x=some y):x= .leave y.1 y.2:=by
 unfold Qp at h;split at h
 ·injection h with h;subst h;rfl
 ·cases h
theorem aa8{K:List Item}{y:Array Oper×Bool×List Item}(h:Pe K=some y):∃id,K= .code (.region id y.1 y.2.1)::y.2.2:=by
 unfold Pe at h;split at h
 ·injection h with h;subst h;exact⟨_,rfl⟩
 ·cases h
theorem Gx{m:Nat}(h:ER n=some m):n=m+1:=by
 cases n with
 |zero=>cases h
 |succ n=>injection h with h;subst h;rfl
theorem S0{op:Op}{x:BinOp×TypeId×Operand×Operand×TypeId}(h:JP op=some x):op= .binOp x.1 x.2.1 x.2.2.1 x.2.2.2.1 x.2.2.2.2:=by
 unfold JP at h;split at h
 ·injection h with h;subst h;rfl
 ·cases h
theorem abB{t:Tr AV}{op:Op}{x:FuncId×List AV}(h:vN t op=some x):∃fo xs ts fi args ca,op= .call ⟨.value fo,xs,ts⟩/\aK t fo=some (.func (.func x.1) fi ca)/\jR (aK t) xs.toList=some args/\x.2=fi++args++ca:=by
 unfold vN at h;split at h
 ·cases h
 ·rename_i y hy;have eU:op= .call ⟨.value y.1,y.2.1,y.2.2⟩:=by
   unfold callParts at hy;split at hy
   ·injection hy with hy;subst hy;rfl
   ·cases hy
  split at h
  ·cases h
  ·rename_i fv hf;split at h
   ·cases h
   ·rename_i g hg;split at h
    ·cases h
    ·rename_i args ha;injection h with h;subst h
     exact⟨_,_,_,g.2.1,_,g.2.2,eU,by rw[hf,adA hg],ha,aeT _ _ _⟩
section
variable {P:Program} {s s1:AS} {SG:aO} {t t1:Tr AV} {ops:Array Oper} {f nt i:Nat} {K:List Item} {G:AF->AS->Prop} {D:Option<|List dD}
theorem aeU{o:BinOp}{a b:Int}(h:QS o a b=some c):∃r,QN o a b=some r/\(r=true↔c):=by
 unfold QS at h;split at h<;>first|(injection h with h;subst h)|cases h
 ·exact⟨_,rfl,by rw[decide_eq_true_iff]⟩
 ·exact⟨_,rfl,by rw[decide_eq_true_iff]⟩
 ·exact⟨_,rfl,by rw[decide_eq_true_iff]⟩
 ·exact⟨_,rfl,by rw[decide_eq_true_iff]⟩
 ·exact⟨_,rfl,by simp⟩
 ·exact⟨_,rfl,by simp⟩
theorem mg.op{op:Op}{d:Option Tmp}{g:Option<|Nat×Bool}(ho:yE ops i=some (op,d,g))(hw:Lq ops g t=true)(h:(dP P op).val SG t (iE D s)= .ok v s1)(hp:jk nt t d v=some t1)(H:mg P SG G f nt K ops (LY D i s s1) (i+1) t1<|Fm D s s1):mg P SG G f nt K ops D i t s:=by
 cases D with
 |none=>exact yG.step (VM ho) (agx ho hw h hp) H
 |some acc=>exact rr.step (VM ho) (aeQ ho hw h hp) H
theorem mg.go{x:Tr AV×Option (List dD)}(hn:Nat.ble (i+n) ops.size=true)(h:QT P SG nt ops D i n t s= .ok x s1)(H:mg P SG G f nt K ops x.2 (i+n) x.1 s1):mg P SG G f nt K ops D i t s:=by
 have hle:=aL.1 hn;unfold QT at h;cases D with
 |none=>
  simp only at h;split at h
  ·rename_i t2 s2 e;injection h with h1 h2;subst h1;subst h2
   obtain⟨t3,s3,q1,q2⟩:=H;refine⟨t3,s3,?_,q2⟩;rw[show ops.size - i=n+(ops.size - (i+n)) by omega];exact Ty e q1
  ·cases h
 |some acc=>
  simp only at h;split at h
  ·rename_i y s2 e;injection h with h1 h2;subst h1;subst h2
   obtain⟨t3,ms,s3,q1,q2,q3⟩:=H;refine⟨t3,_,s3,?_,by rw[←List.append_assoc];exact q2,q3⟩;rw[show ops.size - i=n+(ops.size - (i+n)) by omega];exact US rfl ak e q1
  ·cases h
theorem mg.done(h:Nat.ble ops.size i=true)(ho:Lr ops D=true)(H:G ⟨f,t,nt,K,[],none⟩ s):mg P SG G f nt K ops D i t s:=by
 cases D with
 |none=>exact yG.done h H
 |some acc=>exact rr.done (and_true.2 ⟨h,ho⟩) H
theorem mg.aj0(hG:Chunk P SG G){id:Nat}{d:Bool}(H:mg P SG G f nt K ops (Xw d) 0 t s):G ⟨f,t,nt,.code (.region id ops d)::K,[],none⟩ s:=by
 cases d with
 |false=>exact Chunk.A0 hG (c:=.region id ops false) rfl H
 |true=>exact Chunk.ajW hG (c:=.region id ops true) rfl H
theorem abC{op:Op}{x:Nat×List AV}(h:Pf t op=some x)(hv:SG (.round x.1) x.2 s= .ok v s1):(dP P op).val SG t s= .ok v s1:=by
 unfold Pf at h;split at h
 ·cases h
 ·rename_i y e;split at h
  ·rename_i l e2;split at h
   ·cases h
   ·rename_i args e3;injection h with h;subst h
    unfold callParts at e;split at e
    ·rename_i fo xs ts;injection e with e;subst e
     show uv fo xs.toList SG t s=_;unfold uv;simp only at e2 e3;rw[e3,bY,e2,bY];show ny SG (.yield l) args s=_;exact hv
    ·cases e
  ·cases h
theorem Bu{op:Op}{x:FuncId×List AV}(h:vN t op=some x)(hv:SG (.fn x.1) x.2 s= .ok v s1):(dP P op).val SG t s= .ok v s1:=by obtain⟨fo,xs,ts,fi,args,ca,rfl,h1,h2,h3⟩:=abB h;show uv fo xs.toList SG t s=_;unfold uv;rw[h2,bY,h1,bY];show SG (.fn x.1) (fi++args++ca) s=_;rw[←h3];exact hv
end
theorem aas{op:Op}(h:NH op=some x):op= .lookup x.1 x.2.1 x.2.2 true:=by
 unfold NH at h;split at h
 ·injection h with h;subst h;rfl
 ·cases h
theorem aaO{op:Op}{x:TypeId×Operand×Operand×Operand}(h:OI op=some x):op= .mapUpdate x.1 x.2.1 x.2.2.1 x.2.2.2:=by
 unfold OI at h;split at h
 ·injection h with h;subst h;rfl
 ·cases h
theorem Ui(h:Ls v=some n):v= .map (some n):=by
 unfold Ls at h;split at h
 ·injection h with h;subst h;rfl
 ·cases h
theorem TB{P:Program}{y:TypeId×TypeId}(h:Ky P ty=some y):P.underlying ty=some (.map y.1 y.2):=by
 unfold Ky at h;split at h
 ·rename_i e;injection h with h;subst h;exact e
 ·cases h
theorem N5{k:IntKind}(h:HC k=true):k= .i64:=by
 unfold HC at h;split at h
 ·rfl
 ·cases h
theorem adB{v:Option AV}(h:QV v=true):v=some (.int .i64 0):=by
 unfold QV at h;split at h
 ·rfl
 ·cases h
theorem Nl{op:Op}(h:GQ op=some x):op= .indexAddr x.1 x.2.1 x.2.2:=by
 unfold GQ at h;split at h
 ·injection h with h;subst h;rfl
 ·cases h
theorem Jg{op:Op}{x:Operand×Operand×Array TypeId}(h:D0 op=some x):op= .call ⟨.builtin .append, #[x.1,x.2.1],x.2.2⟩:=by
 unfold D0 at h;split at h
 ·rename_i xs ts;split at h
  ·rename_i a b e;injection h with h;subst h
   have:xs= #[a,b]:=Array.ext' e;rw[this]
  ·cases h
 ·cases h
theorem adC{x:Nat×Nat×Nat×Nat}(h:QU v=some x):v= .slice (some (x.1,0)) x.2.1 (.ar x.2.2.1 x.2.2.2):=by
 unfold QU at h;split at h
 ·injection h with h;subst h;rfl
 ·cases h
theorem abD{m:Nat}(h:PK v=some m):v= .slice (some (m,0)) 1 (.known 1):=by
 unfold PK at h;split at h
 ·injection h with h;subst h;rfl
 ·cases h
theorem Jh{P:Program}{ts:Array TypeId}{x:Nat×Nat}(h:D1 P ts=some x):∃ty e,ts[0]? =some ty/\P.underlying ty=some (.slice e)/\(P.info? e).map (fun i=>(i.size,i.bytes,tO i))=some (x.1,x.2,true)/\pV P ts[1]? =true/\Nat.beq x.2 0=false:=by
 unfold D1 at h;split at h
 ·rename_i ty h1;split at h
  ·rename_i e h2;split at h
   ·rename_i i h3;split at h
    ·rename_i hb;injection h with h;subst h
     obtain⟨b1,b2⟩:=and_true.1 hb;obtain⟨b2,b3⟩:=and_true.1 b2;refine⟨ty,e,h1,h2,by rw[h3];simp only[Option.map_some,b1],b2,by simpa using b3⟩
    ·cases h
   ·cases h
  ·cases h
 ·cases h
theorem Jc{op:Op}{x:TypeId×Operand}(h:Gw op=some x):op= .load x.1 x.2:=by
 unfold Gw at h;split at h
 ·injection h with h;subst h;rfl
 ·cases h
theorem aat{op:Op}(h:NG op=some x):op= .store x.1 x.2.1 x.2.2:=by
 unfold NG at h;split at h
 ·injection h with h;subst h;rfl
 ·cases h
theorem N6{x:Nat×Nat×Nat}(h:HB v=some x):v= .ab x.1 x.2.1 x.2.2:=by
 unfold HB at h;split at h
 ·injection h with h;subst h;rfl
 ·cases h
theorem abE{x:Nat×Nat}(h:PL v=some x):v= .qf x.1 x.2:=by
 unfold PL at h;split at h
 ·injection h with h;subst h;rfl
 ·cases h
theorem Js{x:Nat×Nat}(h:addrOf v=some x):v= .ptr (some x):=by
 unfold addrOf at h;split at h
 ·injection h with h;subst h;rfl
 ·cases h
theorem N7{z:Int}{len:Nat}(h1:0<=z)(h2:z<Int.ofNat len):within z len=some z.toNat:=by
 obtain⟨m,rfl⟩:=Int.eq_ofNat_of_zero_le h1;show within (Int.ofNat m) len=some m;have h2:(m:Int)<(len:Int):=h2;unfold within;have:Nat.blt m len=true:=by rw[blt_eq];omega
 simp only[this]
section
variable {P:Program} {s s1:AS} {SG:aO} {t:Tr AV}
theorem ah2{len K:Nat}{z:Int}(hx:aK t x.2.1=some (.slice (some (n,0)) len cap))(hz:aK t x.2.2=some (.int ik z))(hk:oY P x.1=some K)(h1:0<=z)(h2:z<Int.ofNat len):(dP P<|.indexAddr x.1 x.2.1 x.2.2).val SG t s= .ok (.ptr<|some (n,z.toNat*K)) s:=by
 show qH P x.1 x.2.1 x.2.2 SG t s=_;unfold qH;rw[hx,hz,bY,bY];unfold oY at hk;split at hk
 ·rename_i e he;show lift (indexAddr P x.1 (.slice (some (n,0)) len cap)<|.int ik z) s=_;unfold indexAddr intOf;simp only[he,hk,N7 h1 h2,Nat.zero_add];rfl
 ·cases hk
theorem agJ{K:Nat×Nat}{z:Int}(hx:aK t x.2.1=some (.ptr<|some (n,o)))(hz:aK t x.2.2=some (.int ik z))(hk:Qq P x.1=some K)(h1:0<=z)(h2:z<Int.ofNat K.1):(dP P<|.indexAddr x.1 x.2.1 x.2.2).val SG t s= .ok (.ptr<|some (n,o+z.toNat*K.2)) s:=by
 show qH P x.1 x.2.1 x.2.2 SG t s=_;unfold qH;rw[hx,hz,bY,bY];unfold Qq at hk;split at hk
 ·rename_i m e he;cases hs:eD P e with
  |none=>rw[hs] at hk;cases hk
  |some k=>
   rw[hs] at hk;injection hk with hk
   subst hk;show lift (indexAddr P x.1 (.ptr<|some (n,o))<|.int ik z) s=_;unfold indexAddr intOf;simp only[he,hs,N7 h1 h2];rfl
 ·cases hk
theorem agK{len K:Nat}{z:Int}(hx:aK t x.2.1=some (.ab n o len))(hz:aK t x.2.2=some (.int ik z))(hk:oY P x.1=some K)(h1:0<=z)(h2:z<Int.ofNat len):(dP P<|.indexAddr x.1 x.2.1 x.2.2).val SG t s= .ok (.qf n<|o+z.toNat*K) s:=by
 show qH P x.1 x.2.1 x.2.2 SG t s=_;unfold qH;rw[hx,hz,bY,bY];unfold oY at hk;split at hk
 ·rename_i e he;show lift (indexAddr P x.1 (.ab n o len)<|.int ik z) s=_;unfold indexAddr intOf;simp only[he,hk,N7 h1 h2];rfl
 ·cases hk
theorem S2(hk:yq k=true)(hn:Nat.blt n s.nx=true)(h:cellsOf (s.h.get n) off k=some cs):jd n off k s= .ok cs (bc n s):=by
 cases k with
 |zero=>cases hk
 |succ k=>
  unfold cellsOf at h;split at h
  ·rename_i m tt z hg;split at h
   ·rename_i hb;show((bz n).bind fun o=>match o with
     | .cells m t z=>aF (Nat.ble (off+(k+1)) m) <| lift (l6 t z (k+1) off)
     | .ro m t=>aF (Nat.ble (off+(k+1)) m) <| lift (l6 t [] (k+1) off)
     |_=>fail) s=_
    rw[M.bO<|lY hn hg];show aF (Nat.ble (off+(k+1)) m) (lift<|l6 tt z (k+1) off) (bc n s)=_;rw[hb,dA,h];rfl
   ·cases h
  ·cases h
theorem abF(hg:qZ P ty=some ag)(hw:He P ty ag=some k)(hk:yq k=true)(hn:Nat.blt n s.nx=true)(hv:H4 ag cs=some v)(h:cellsOf (s.h.get n) off k=some cs):loadVar P ty n off s= .ok v (bc n s):=by
 unfold loadVar;rw[hg,bY];cases ag with
 |true=>
  have hw:eD P ty=some k:=hw;injection hv with hv;subst hv
  show(aC (eD P ty) fun k=>(jd n off k).bind fun l=>M.pure<|AV.agg l) s=_;rw[hw,bY,M.bO<|S2 hk hn h];rfl
 |false=>
  injection hw with hw;subst hw
  show((jd n off 1).bind fun l=>lift<|one l) s=_;rw[M.bO<|S2 hk hn h];show lift (one cs) (bc n s)=_;rw[show one cs=some v from hv];rfl
theorem Qs{x:TypeId×Operand}(ha:aK t x.2=some (.ptr<|some a))(hg:qZ P x.1=some ag)(hw:He P x.1 ag=some k)(hk:yq k=true)(hn:Nat.blt a.1 s.nx=true)(hv:H4 ag cs=some v)(h:cellsOf (s.h.get a.1) a.2 k=some cs):(dP P<|.load x.1 x.2).val SG t s= .ok v (bc a.1 s):=by show uu P x.1 x.2 SG t s=_;unfold uu;rw[ha,bY];show loadVar P x.1 a.1 a.2 s=_;exact abF hg hw hk hn hv h
theorem agL{o:ae}(ha:aK t x.2.1=some (.ptr<|some a))(hv:aK t x.2.2=some v)(hk:eD P x.1=some k)(hl:Nat.beq v.cells.length k=true)(hp:yq k=true)(hn:Nat.blt a.1 s.nx=true)(ht:Nat.blt a.1 top=true)(h:wa (s.h.get a.1) a.2 v.cells=some o):(dP P<|.store x.1 x.2.1 x.2.2).val SG t s= .ok nq (fB a.1 (some o)<|bc a.1 s):=by
 show xZ P x.1 x.2.1 x.2.2 SG t s=_;unfold xZ;rw[ha,bY];show aC (aK t x.2.2) (fun v=>(storeVar P x.1 a.1 a.2 v).bind fun _=>M.pure nq) s=_;rw[hv,bY];have hw:storeVar P x.1 a.1 a.2 v s= .ok () (fB a.1 (some o)<|bc a.1 s):=by
  unfold storeVar;rw[hk,bY,hl,dA];unfold wa at h;split at h
  ·rename_i m tt z hg;split at h
   ·rename_i hb;injection h with h;subst h
    cases hc:v.cells with
    |nil=>rw[hc] at hl;have:=Nat.eq_of_beq_eq_true hl;subst this;cases hp
    |cons y r=>
     rw[hc] at hb;show((bz a.1).bind fun o=>match o with
      | .cells m t z=>aF (and (Nat.ble (a.2+(r.length+1)) m)<|and (Nat.ble m top)<|(y::r).all AV.cj) <| bN a.1 (some<|.cells m (Tr.fill (y::r) a.2 t) z)
      |_=>fail) s=_
     rw[M.bO<|lY hn hg];show aF (and (Nat.ble (a.2+(r.length+1)) m)<|and (Nat.ble m top)<|(y::r).all AV.cj) (bN a.1<|some<|.cells m (Tr.fill (y::r) a.2 tt) z) (bc a.1 s)=_;rw[show(and (Nat.ble (a.2+(r.length+1)) m)<|and (Nat.ble m top)<|(y::r).all AV.cj)=true from hb,dA];obtain⟨e1,e2,_⟩:=fN a.1 s;exact xP (p:=.cells m tt z) (by rw[e2];exact hn) (by rw[e1];exact hg) rfl ht
   ·cases h
  ·cases h
 rw[M.bO hw];rfl
theorem agM{x:TypeId×Operand}(ha:aK t x.2=some (.qf a.1 a.2))(hg:qZ P x.1=some ag){z:Nat}(hz:eD P x.1=some z)(hw:He P x.1 ag=some k)(hv:H4 ag cs=some v)(ht:top<=a.1)(h:cx F a.1 a.2 k=some cs):(dP P<|.load x.1 x.2).val (bh P sp F n) t s= .ok v s:=by
 show uu P x.1 x.2 (bh P sp F n) t s=_;unfold uu;rw[ha,bY];show(match Nat.ble top a.1 with
  |true=>vI P x.1 (bh P sp F n) a.1 a.2
  |false=>xN P x.1 a.1 a.2) s=_
 rw[aL.2 ht];have hr:∀k,cx F a.1 a.2 k=some cs->bh P sp F n (.row a.1 a.2 k) [] s= .ok (.agg cs) s:=by
  intro k h;have:rp F a.1 a.2 k s= .ok (.agg cs) s:=by
   unfold cx at h;unfold rp;cases e:F a.1 with
   |none=>rw[e] at h;cases h
   |some l=>
    rw[e] at h;simp only at h;split at h
    ·rename_i hb;injection h with h;subst h
     rw[bY,hb,dA];rfl
    ·cases h
  cases n<;>exact this
 show vI P x.1 (bh P sp F n) a.1 a.2 s=_;unfold vI;rw[hg,bY];rw[hz,bY];cases ag with
 |true=>
  have hw:eD P x.1=some k:=hw;rw[hz] at hw;injection hw with hw;subst hw
  injection hv with hv;subst hv
  show((bh P sp F n (.row a.1 a.2 z) []).bind fun v=>_) s=_;rw[M.bO<|hr z h];rfl
 |false=>
  injection hw with hw;subst hw
  show((bh P sp F n (.row a.1 a.2 1) []).bind fun v=>_) s=_;rw[M.bO<|hr 1 h];show lift (one cs) s=_;rw[show one cs=some v from hv];rfl
theorem ah3{x:BinOp×TypeId×Operand×Operand×TypeId}{k:IntKind}{a b:Int}(ho:x.1= .rem)(hx:aK t x.2.2.1=some (.int k a))(hy:aK t x.2.2.2.1=some (.int k b))(hb:b≠0):(dP P<|.binOp x.1 x.2.1 x.2.2.1 x.2.2.2.1 x.2.2.2.2).val SG t s= .ok (.int k<|Int.tmod a b) s:=by rw[ho];exact agw hx hy hb rfl
theorem OJ:∀{l:List<|Nat×AV},l.map (fun q=>t.get q.1)=l.map (fun q=>some q.2)->yp t l
 |[],_=>trivial
 |p::l,h=>by simp only[List.map_cons,List.cons.injEq] at h;exact⟨h.1,OJ h.2⟩
theorem Ph{h:Tr ae}:∀{o:List<|Nat×Option ae},o.map (fun q=>h.get q.1)=o.map (fun q=>q.2)->(o.all fun q=>Kx q.2)=true->yF h o
 |[],_,_=>trivial
 |p::l,e,k=>by simp only[List.map_cons,List.cons.injEq] at e;rw[List.all_cons] at k;obtain⟨k1,k2⟩:=and_true.1 k;exact⟨⟨e.1,fun o ho=>by rw[ho] at k1;exact k1⟩,Ph e.2 k2⟩
end
def A5(m m':dD):Prop:=m.i=m'.i/\(∀n∈m.rd,n∈m'.rd)/\(∀n∈m.wr,n∈m'.wr)/\m.lo=m'.lo/\m.hi=m'.hi
def nF:List dD->List dD->Prop
 |[],[]=>True
 |x::l,y::m=>A5 x y/\nF l m
 |_,_=>False
theorem A5.refl(m:dD):A5 m m:=⟨rfl,fun _ h=>h,fun _ h=>h,rfl,rfl⟩
theorem nF.refl:∀l:List dD,nF l l
 |[]=>trivial
 |x::l=>⟨A5.refl x,nF.refl l⟩
theorem nF.app:∀{a a' b b':List dD},nF a a'->nF b b'->nF (a++b) (a'++b')
 |[],[],_,_,_,h=>h
 |_::_,_::_,_,_,h,k=>⟨h.1,nF.app h.2 k⟩
 |[],_::_,_,_,h,_=>h.elim
 |_::_,[],_,_,h,_=>h.elim
theorem N8{lo hi:Nat}:∀{l:List Nat},Ad lo hi l=true↔∃n∈l,lo<=n/\n<hi
 |[]=>by simp[Ad]
 |x::l=>by
  have ih:=N8 (lo:=lo) (hi:=hi) (l:=l);unfold Ad;cases q:(Nat.ble lo x&&Nat.blt x hi) with
  |true=>obtain⟨h1,h2⟩:=and_true.1 q;exact⟨fun _=>⟨x,List.mem_cons_self,aL.1 h1,(blt_eq _ _).mp h2⟩,fun _=>rfl⟩
  |false=>
   refine ih.trans ⟨fun⟨n,a,b⟩=>⟨n,List.mem_cons_of_mem _ a,b⟩,fun⟨n,a,b⟩=>?_⟩;rcases List.mem_cons.1 a with rfl|a
   ·exfalso;rw[show(Nat.ble lo n&&Nat.blt n hi)=true from and_true.2 ⟨aL.2 b.1,(blt_eq _ _).mpr b.2⟩] at q;cases q
   ·exact⟨n,a,b⟩
theorem N9:∀{a b:List Nat},meets a b=true↔∃n∈a,n∈b
 |[],b=>by simp[meets]
 |x::a,b=>by
  have ih:=N9 (a:=a) (b:=b);unfold meets;cases q:Cy x b with
  |true=>exact⟨fun _=>⟨x,List.mem_cons_self,JJ.1 q⟩,fun _=>rfl⟩
  |false=>
   refine ih.trans ⟨fun⟨n,h,k⟩=>⟨n,List.mem_cons_of_mem _ h,k⟩,fun⟨n,h,k⟩=>?_⟩;rcases List.mem_cons.1 h with rfl|h
   ·rw[JJ.2 k] at q;cases q
   ·exact⟨n,h,k⟩
theorem Uj{m:Nat}{a b:List Nat}(h:∀k∈a,k∈b)(n:Nat)(hn:n∈below m a):n∈below m b:=by obtain⟨h1,h2⟩:=xD.1 hn;exact xD.2 ⟨h n h1,h2⟩
theorem Jt(l:List Nat):below 0 l=[]:=rfl
theorem abG{x y y':dD}(hx:A5 x x')(hy:A5 y y')(h:tY x' y'=true):tY x y=true:=by
 unfold tY at h ⊢;obtain⟨h1,h2⟩:=and_true.1 h;refine and_true.2 ⟨?_,?_⟩
 ·cases q:meets x.wr y.rd with
  |false=>rfl
  |true=>obtain⟨n,a,b⟩:=N9.1 q;rw[N9.2 ⟨n,hx.2.2.1 n a,hy.2.1 n b⟩] at h1;cases h1
 ·cases q:Ad x.lo x.hi y.rd with
  |false=>rfl
  |true=>obtain⟨n,a,b⟩:=N8.1 q;rw[hx.2.2.2.1,hx.2.2.2.2] at b;rw[N8.2 ⟨n,hy.2.1 n a,b⟩] at h2;cases h2
theorem abH{x:dD}(hx:A5 x x')(h:tZ x'=true):tZ x=true:=by
 unfold tZ at h ⊢;cases e:x'.wr with
 |cons a l=>rw[e] at h;cases h
 |nil=>
  rw[e] at h;cases e2:x.wr with
  |nil=>rw[hx.2.2.2.1,hx.2.2.2.2];exact h
  |cons a l=>have:=hx.2.2.1 a (by rw[e2];exact List.mem_cons_self);rw[e] at this;cases this
theorem SJ{b:Array Nat}{x x':dD}(hx:A5 x x'):∀{l l':List dD},nF l l'->tK b x' l'=true->tK b x l=true
 |[],[],_,_=>rfl
 |[],_::_,h,_=>h.elim
 |_::_,[],h,_=>h.elim
 |y::l,y'::l',hl,h=>by
  unfold tK at h ⊢;cases q:(Nat.beq x'.i y'.i||(tY x' y'|| !loose b x'.i y'.i)) with
  |false=>rw[q] at h;cases h
  |true=>
   rw[q] at h;have:(Nat.beq x.i y.i||(tY x y|| !loose b x.i y.i))=true:=by
    rw[hx.1,hl.1.1];cases q1:Nat.beq x'.i y'.i with
    |true=>rfl
    |false=>
     rw[q1] at q;cases q2:tY x' y' with
     |true=>rw[abG hx hl.1 q2];rfl
     |false=>
      rw[q2] at q;cases tY x y
      ·exact q
      ·rfl
   rw[this];exact SJ hx hl.2 h
theorem Uk{b:Array Nat}{all QW:List dD}(ha:nF all QW):∀{l l':List dD},nF l l'->qQ b QW l'=true->qQ b all l=true
 |[],[],_,_=>rfl
 |[],_::_,h,_=>h.elim
 |_::_,[],h,_=>h.elim
 |x::l,x'::l',hl,h=>by
  unfold qQ at h ⊢;cases q:(tZ x'||tK b x' QW) with
  |false=>rw[q] at h;cases h
  |true=>
   rw[q] at h;have:(tZ x||tK b x all)=true:=by
    cases q1:tZ x' with
    |true=>rw[abH hl.1 q1];rfl
    |false=>rw[q1] at q;rw[SJ hl.1 ha q];cases tZ x<;>rfl
   rw[this];exact Uk ha hl.2 h
theorem rr.cover{P:Program}{SG:aO}{G:AF->AS->Prop}{f nt:Nat}{K:List Item}{ops:Array Oper}{acc QX:List dD}{i:Nat}{t:Tr AV}{s:AS}(h:nF acc QX)(H:rr P SG G f nt K ops QX i t s):rr P SG G f nt K ops acc i t s:=by obtain⟨t1,ms,s1,q1,q2,q3⟩:=H;exact⟨t1,ms,s1,q1,Uk (h.app<|nF.refl ms) (h.app<|nF.refl ms) q2,q3⟩
theorem acs{B:Prop}(hy:b=true->A)(mr:b=false->B)(ha:b=true->A->X)(hb:b=false->B->X):X:=by
 cases b with
 |true=>exact ha rfl<|hy rfl
 |false=>exact hb rfl<|mr rfl
theorem adD{o:Option AV}{d:Decidable c}{B:Prop}(h:o=some (.bool<|@decide c d))(hy:c->A)(mr:¬c->B)(ha:o=some (.bool true)->A->X)(hb:o=some (.bool false)->B->X):X:=by
 by_cases q:c
 ·rw[decide_eq_true q] at h;exact ha h<|hy q
 ·rw[decide_eq_false q] at h;exact hb h<|mr q
theorem BE{x:Nat×Nat×cR}(h:yJ v=some x):v= .slice (some (x.1,0)) x.2.1 x.2.2:=by
 unfold yJ at h;split at h
 ·injection h with h;subst h;rfl
 ·cases h
theorem SK{op:Op}{x:TypeId×Operand×Option Operand×Option Operand}(h:Jr op=some x):op= .slice x.1 x.2.1 x.2.2.1 x.2.2.2 none:=by
 unfold Jr at h;split at h
 ·injection h with h;subst h;rfl
 ·cases h
theorem Oa{i:Int}(h0:0<=i)(h1:i<(n:Int)):within i n=some i.toNat:=by
 obtain⟨k,rfl⟩:=Int.eq_ofNat_of_zero_le h0;have hk:k<n:=by omega
 show(match (Int.ofNat k) with| .ofNat k=>(match Nat.blt k n with|true=>some k|false=>none)| .negSucc _=>none)=some k;have:Nat.blt k n=true:=by rw[blt_eq];exact hk
 simp only[this]
theorem Ji{t:Tr AV}{o:Option Operand}{d v:Int}{rf:Nat}(h:vP t o d=some v)(h0:0<=v)(h1:v<=(rf:Int)):∃y,opt (aK t) o=some y/\∀dn:Nat,(Int.ofNat dn=d)->bound y rf dn=some v.toNat:=by
 cases o with
 |none=>
  injection h with h;subst h
  exact⟨none,rfl,fun dn e=>by subst e;rfl⟩
 |some x=>
  unfold vP at h;simp only at h;cases e:aK t x with
  |none=>rw[e] at h;cases h
  |some z=>
   rw[e] at h;cases z<;>simp only at h<;>first|(cases h;done)|skip
   rename_i k n;injection h with h;subst h
   refine⟨some<|.int k n,?_,fun dn _=>?_⟩
   ·show(match aK t x with|none=>none|some v=>some<|some v)=_;rw[e]
   ·show within n (rf+1)=_;exact Oa h0 ak
theorem ah4{P:Program}{SG:aO}{t:Tr AV}{s:AS}{x:TypeId×Operand×Option Operand×Option Operand}{len K:Nat}{lo hi:Int}(hx:aK t x.2.1=some (.ab n o len))(hk:oY P x.1=some K)(h1:vP t x.2.2.1 0=some lo)(h2:vP t x.2.2.2 (Int.ofNat len)=some hi)(ht:top<=n)(a1:0<=lo)(a2:lo<=hi)(a3:hi<=Int.ofNat len):
 (dP P<|.slice x.1 x.2.1 x.2.2.1 x.2.2.2 none).val SG t s= .ok (.ab n (o+lo.toNat*K)<|hi.toNat - lo.toNat) s:=by
 obtain⟨y1,e1,f1⟩:=Ji (rf:=hi.toNat) h1 a1 ak;obtain⟨y2,e2,f2⟩:=Ji (rf:=len) h2 ak a3;show qN P x.1 x.2.1 x.2.2.1 x.2.2.2 none SG t s=_;unfold qN;rw[hx,bY,e1,bY,e2,bY];show lift (rZ P x.1 (.ab n o len) y1 y2 none) s=_;have:rZ P x.1 (.ab n o len) y1 y2 none=some (.ab n (o+lo.toNat*K)<|hi.toNat - lo.toNat):=by
  unfold oY at hk;split at hk<;>first|(cases hk;done)|skip
  rename_i e hu;unfold rZ;rw[hu];simp only[hk,f2 len rfl,f1 0 rfl,aL.2 ht]
 rw[this];rfl
theorem aan{op:Op}{x:TypeId×Operand×Operand×Operand}(h:Nv op=some x):op= .slice x.1 x.2.1 none (some x.2.2.1) (some x.2.2.2):=by
 unfold Nv at h;split at h
 ·injection h with h;subst h;rfl
 ·cases h
theorem ah5{P:Program}{SG:aO}{t:Tr AV}{s:AS}{x:TypeId×Operand×Option Operand×Option Operand}{len K:Nat}{hi:Int}(hx:aK t x.2.1=some (.slice (some (n,0)) len cap))(hk:oY P x.1=some K)(h1:vP t x.2.2.1 0=some 0)(h2:vP t x.2.2.2 (Int.ofNat len)=some hi)(hc:kept cap=true)(a1:0<=hi)(a2:hi<=Int.ofNat (jC len cap)):
 (dP P<|.slice x.1 x.2.1 x.2.2.1 x.2.2.2 none).val SG t s= .ok (.slice (some (n,0)) hi.toNat cap) s:=by
 obtain⟨y1,e1,f1⟩:=Ji (rf:=hi.toNat) h1 ak ak;obtain⟨y2,e2,f2⟩:=Ji (rf:=jC len cap) h2 a1 a2;show qN P x.1 x.2.1 x.2.2.1 x.2.2.2 none SG t s=_;unfold qN;rw[hx,bY,e1,bY,e2,bY];show lift (rZ P x.1 (.slice (some (n,0)) len cap) y1 y2 none) s=_;have:rZ P x.1 (.slice (some (n,0)) len cap) y1 y2 none=some (.slice (some (n,0)) hi.toNat cap):=by
  unfold oY at hk;split at hk<;>first|(cases hk;done)|skip
  rename_i e hu;unfold rZ;rw[hu];have f1':=f1 0 rfl;simp only[hk,f2 len rfl];rw[f1'];cases cap with
  |known c=>
   show(match Nat.beq c 0 with
    |true=>some (AV.slice (some (n,0)) (hi.toNat - 0)<|.known<|c - 0)
    |false=>some<|AV.slice (some (n,0+0*K)) (hi.toNat - 0)<|.known<|c - 0)=_
   rw[Nat.zero_mul];cases Nat.beq c 0<;>rfl
  |ar b e=>rfl
  |lost=>cases hc
 rw[this];rfl
theorem ah6{P:Program}{SG:aO}{t:Tr AV}{s:AS}{x:TypeId×Operand×Operand×Operand}{len K:Nat}{hi mx:IntKind×Int}(hx:aK t x.2.1=some (.slice (some (n,0)) len cap))(hk:oY P x.1=some K)(h1:aK t x.2.2.1=some (.int hi.1 hi.2))(h2:aK t x.2.2.2=some (.int mx.1 mx.2))(hc:kept cap=true)(a1:0<=hi.2)(a2:hi.2<=mx.2)(a3:mx.2<=Int.ofNat (jC len cap)):
 (dP P<|.slice x.1 x.2.1 none (some x.2.2.1)<|some x.2.2.2).val SG t s= .ok (.slice (some (n,0)) hi.2.toNat<|.known mx.2.toNat) s:=by
 show qN P x.1 x.2.1 none (some x.2.2.1) (some x.2.2.2) SG t s=_;unfold qN;have o1:opt (aK t) (some x.2.2.1)=some (some<|.int hi.1 hi.2):=by show(match aK t x.2.2.1 with|none=>none|some v=>some<|some v)=_;rw[h1]
 have o2:opt (aK t) (some x.2.2.2)=some (some<|.int mx.1 mx.2):=by show(match aK t x.2.2.2 with|none=>none|some v=>some<|some v)=_;rw[h2]
 rw[hx,bY,show opt (aK t) none=some none from rfl,bY,o1,bY,o2,bY];show lift (rZ P x.1 (.slice (some (n,0)) len cap) none (some<|.int hi.1 hi.2)<|some<|.int mx.1 mx.2) s=_;have b1:bound (some<|.int mx.1 mx.2) (jC len cap) 0=some mx.2.toNat:=Oa ak (by have:(Int.ofNat<|jC len cap)=((jC len cap:Nat):Int):=rfl;omega);have b2:bound (some<|.int hi.1 hi.2) mx.2.toNat 0=some hi.2.toNat:=Oa a1 ak;have:rZ P x.1 (.slice (some (n,0)) len cap) none (some<|.int hi.1 hi.2) (some<|.int mx.1 mx.2)=some (.slice (some (n,0)) hi.2.toNat<|.known mx.2.toNat):=by
  unfold oY at hk;split at hk<;>first|(cases hk;done)|skip
  rename_i e hu;unfold rZ;rw[hu];simp only[hk];have h3:slice3 K (some (n,0)) (jC len cap) none (some<|.int hi.1 hi.2) (.int mx.1 mx.2)=some (.slice (some (n,0)) hi.2.toNat<|.known mx.2.toNat):=by
   unfold slice3;rw[b1];simp only;rw[b2];show(match Nat.beq mx.2.toNat 0 with
    |true=>some (AV.slice (some (n,0)) (hi.2.toNat - 0)<|.known<|mx.2.toNat - 0)
    |false=>some<|AV.slice (some (n,0+0*K)) (hi.2.toNat - 0)<|.known<|mx.2.toNat - 0)=_
   rw[Nat.zero_mul];cases Nat.beq mx.2.toNat 0<;>rfl
  cases cap with
  |known c=>exact h3
  |ar b e=>exact h3
  |lost=>cases hc
 rw[this];rfl
theorem adE{P:Program}{m:Nat}{s:AS}(h:cx F n o k=some cs):bh P sp F m (.row n o k) [] s= .ok (.agg cs) s:=by
 have:rp F n o k s= .ok (.agg cs) s:=by
  unfold cx at h;unfold rp;split at h
  ·rename_i l e;split at h
   ·rename_i q;injection h with h;subst h
    rw[e,bY,q,dA];rfl
   ·cases h
  ·cases h
 cases m<;>exact this
theorem aa9{l:List AV}{z:Nat×List AV}(h:Pg l=some z):l= .ptr (some (z.1,0))::z.2:=by
 unfold Pg at h;split at h
 ·injection h with h;subst h;rfl
 ·cases h
theorem acu{o:Option ae}{u:Nat×AV}(h:Qr o=some u):o=some (.tok u.1 u.2):=by
 unfold Qr at h;split at h
 ·injection h with h;subst h;rfl
 ·cases h
theorem D2{E:Env}(hE:E.Ok):∀(fuel n:Nat) (c:Mx) (p:Pl) (rs:List ResultVar) (k:Kt) (C:AB) (G:AF->AS->Prop),Chunk E.P (bh E.P E.sp E.F n) G->
 (∀fr s j aQ jm s1 x s2 p,eh E.P (bh E.P E.sp E.F n) j fr s= .ok (.leave aQ jm) s1->finish E.P rs aQ jm s1= .ok x s2->k x s2 p->G fr s)->(∀fr s p,C fr s p->G fr s)->(∀f nt K t s l o nx p,E.fg=true->qj top l=true->qj top o=true->(Nat.ble s.nx nx&&Nat.ble nx top)=true->yp t l->yF s.h o->C ⟨f,aP l,nt,K,[],none⟩ (aj o nx) p->G ⟨f,t,nt,K,[],none⟩ s)->(∀f nt K t s l0 o0 l o nx p,E.fg=true->l0.map (fun q=>t.get q.1)=l0.map (fun q=>some q.2)->o0.map (fun q=>s.h.get q.1)=o0.map (fun q=>q.2)->gY E.F E.lo s.nx l0 o0 l o nx->C ⟨f,aP l,nt,K,[],none⟩ (aj o nx) p->G ⟨f,t,nt,K,[],none⟩ s)->(∀f nt K t s l o nx p,E.fg=true->qj top l=true->qj nx o=true->(Nat.ble nx s.nx&&(Nat.blt s.nx top&&Nat.ble E.lo nx))=true->yp t l->yF s.h o->yI nx l o->C ⟨f,aP l,nt,K,[],none⟩ (aj o nx) p->G ⟨f,t,nt,K,[],none⟩ s)->wp E fuel n c p rs k C->Gof E.P (bh E.P E.sp E.F n) G c
 |0,n,c,p,rs,k,C,G,hG,hk,hC,hL,hR,hB,h=>h.elim
 |fuel+1,n,c,p,rs,k,C,G,hG,hk,hC,hL,hR,hB,h=>by
  have ih:=D2 hE fuel;have h:RQ E (wp E fuel) n c p rs k C:=h;unfold RQ at h;cases c with
  |fr f nt K t s=>
   simp only at h;split at h
   ·obtain⟨x,s1,h1,h⟩:=Hf h;obtain⟨y,h2,h⟩:=bf h;rw[acq h2] at h1;exact hG _ _ _ _ _ h1<|ih n _ _ rs k C G hG hk hC hL hR hB h
   ·obtain⟨x,h1,h⟩:=bf h;obtain⟨id,rfl⟩:=aa8 h1;exact mg.aj0 hG<|ih n _ _ rs k C G hG hk hC hL hR hB h
   ·obtain⟨x,s1,h1,h⟩:=Hf h;obtain⟨y,h2,h⟩:=bf h;obtain⟨v,s2,h3,h⟩:=Hf h;rw[acr h2] at h1;exact hk _ _ _ _ _ _ _ _ _ h1 h3 h
   ·exact hC _ _ _ h
   ·obtain⟨h1,h2,h3,h⟩:=gW h;obtain⟨q0,h1⟩:=and_true.1 h1;obtain⟨q1,h1⟩:=and_true.1 h1;obtain⟨q2,h1⟩:=and_true.1 h1;obtain⟨q3,q4⟩:=and_true.1 h1;exact hL _ _ _ _ _ _ _ _ _ q0 q1 q2 q3 (OJ h2) (Ph h3 q4) h
   ·obtain⟨h1,h2,h3,h4,h⟩:=gW h;obtain⟨q0,q1⟩:=and_true.1 h1;have q1:=Nat.eq_of_beq_eq_true q1;rw[←q1] at h4;exact hR _ _ _ _ _ _ _ _ _ _ _ q0 h2 h3 h4 h
   ·obtain⟨h1,h2,h3,h4,h⟩:=gW h;obtain⟨q0,h1⟩:=and_true.1 h1;obtain⟨q1,h1⟩:=and_true.1 h1;obtain⟨q2,h1⟩:=and_true.1 h1;obtain⟨q3,q4⟩:=and_true.1 h1;exact hB _ _ _ _ _ _ _ _ _ q0 q1 q2 q3 (OJ h2) (Ph h3 q4) h4 h
   ·exact h.elim
  |rg f nt K ops D i t s=>
   simp only at h;split at h
   ·obtain⟨h1,h⟩:=gW h;obtain⟨x,s1,h2,h⟩:=Hf h;exact mg.go h1 h2<|ih n _ _ rs k C G hG hk hC hL hR hB h
   ·obtain⟨h1,h⟩:=gW h;obtain⟨h2,h⟩:=gW h;exact mg.done h1 h2<|ih n _ _ rs k C G hG hk hC hL hR hB h
   ·obtain⟨o,ho,h⟩:=bf h;obtain⟨hw,h⟩:=gW h;obtain⟨op,d,g⟩:=o;simp only at hw h;have hn:∀v s1 p,(dP E.P op).val (bh E.P E.sp E.F n) t (iE D s)= .ok v s1->(wo (jk nt t d v) fun t1=>wp E fuel n (.rg f nt K ops (LY D i s s1) (i+1) t1<|Fm D s s1) p rs k C)->mg E.P (bh E.P E.sp E.F n) G f nt K ops D i t s:=by intro v s1 p hv h;obtain⟨t1,hp,h⟩:=bf h;exact mg.op ho hw hv hp (ih n _ _ rs k C G hG hk hC hL hR hB h)
    generalize cJ:(fun(v:AV) (s1:AS) (p:Pl)=>wo (jk nt t d v) fun t1=>wp E fuel n (.rg f nt K ops (LY D i s s1) (i+1) t1<|Fm D s s1) p rs k C)=nx at h;have hn:∀v s1 p,(dP E.P op).val (bh E.P E.sp E.F n) t (iE D s)= .ok v s1->nx v s1 p->mg E.P (bh E.P E.sp E.F n) G f nt K ops D i t s:=by intro v s1 p hv h;rw[←cJ] at h;exact hn v s1 p hv h
    have kD:∀v h2 R W p,((D.isSome&&Nat.beq s.mark 0)||Nat.beq (iE D s).mark 0)=true->(∃rd wr,(∀k∈rd,k∈R\/k∈(iE D s).rd)/\(∀k∈wr,k∈W\/k∈(iE D s).wr)/\((iE D s).mark=0->rd=(iE D s).rd/\wr=(iE D s).wr)/\
     (dP E.P op).val (bh E.P E.sp E.F n) t (iE D s)= .ok v ⟨h2,(iE D s).nx+1,(iE D s).mark,rd,wr⟩)->nx v (LZ (D.isSome&&Nat.beq s.mark 0) (iE D s) h2 R W) p->mg E.P (bh E.P E.sp E.F n) G f nt K ops D i t s:=by
     rintro v h2 R W p da ⟨rd,wr,a1,a2,a3,hv⟩ h;cases RR:(D.isSome&&Nat.beq s.mark 0) with
     |false=>rw[RR] at da h;have AU:=Nat.eq_of_beq_eq_true (show Nat.beq (iE D s).mark 0=true from da);obtain⟨rfl,rfl⟩:=a3 AU;exact hn _ _ _ hv h
     |true=>
      rw[RR] at h;obtain⟨RT,hd2⟩:=and_true.1 RR;cases D with
      |none=>cases RT
      |some acc=>
       have hm:s.mark=0:=Nat.eq_of_beq_eq_true hd2;have a1:∀k∈rd,k∈R:=fun k hk=>(a1 k hk).resolve_right (by show ¬k∈([]:List Nat);simp);have a2:∀k∈wr,k∈W:=fun k hk=>(a2 k hk).resolve_right (by show ¬k∈([]:List Nat);simp);have h:nx v ⟨h2,(iE (some acc) s).nx+1,(iE (some acc) s).mark,R,W⟩ p:=h;rw[←cJ] at h;obtain⟨t1,hp,h⟩:=bf h;refine mg.op ho hw hv hp ?_;have H:=ih n _ _ rs k C G hG hk hC hL hR hB h;have e:Fm (some acc) s ⟨h2,(iE (some acc) s).nx+1,(iE (some acc) s).mark,rd,wr⟩=Fm (some acc) s ⟨h2,(iE (some acc) s).nx+1,(iE (some acc) s).mark,R,W⟩:=by show EP s _=EP s _;unfold EP;rw[hm,Jt,Jt,Jt,Jt]
       rw[e];exact rr.cover (QX:=acc++[LX i s ⟨h2,(iE (some acc) s).nx+1,(iE (some acc) s).mark,R,W⟩]) (nF.app (nF.refl acc) ⟨⟨rfl,fun n h=>Uj a1 n h,fun n h=>Uj a2 n h,rfl,rfl⟩,trivial⟩) H
    show mg E.P (bh E.P E.sp E.F n) G f nt K ops D i t s;unfold Zl at h;split at h
    ·obtain⟨x,h1,h⟩:=bf h;obtain⟨a,h2,h⟩:=bf h;obtain⟨b,h3,h⟩:=bf h;obtain⟨a1,h4,h⟩:=bf h;obtain⟨b1,h5,h⟩:=bf h;obtain⟨h6,h⟩:=gW h;obtain⟨c,h7,hy,mr⟩:=bf h;have h6:=of_decide_eq_true h6;have e:=S0 h1;rw[rT h4] at h2;rw[rT h5, ←h6] at h3;obtain⟨r,hr,Zm⟩:=aeU h7;have hv:(dP E.P op).val (bh E.P E.sp E.F n) t (iE D s)= .ok (.bool r) (iE D s):=by rw[e];exact agy h2 h3 hr
     cases r with
     |true=>exact hn _ _ _ hv<|hy<|Zm.1 rfl
     |false=>exact hn _ _ _ hv (mr fun q=>by have:=Zm.2 q;cases this)
    ·obtain⟨v',s1,h1,rfl,h⟩:=Hf h;exact hn _ _ _ h1 h
    ·obtain⟨x,h1,h⟩:=bf h;obtain⟨m,hm,h⟩:=bf h;obtain⟨val,h2,h⟩:=bf h;obtain⟨h3,h4,h⟩:=gW h;have e:=Gx hm;exact hn _ _ _ (by rw[e];exact Bu h1<|hE.u0 _ _ _ _ _ _ h2 h4 h3) h
    ·obtain⟨x,h1,h⟩:=bf h;obtain⟨m,hm,h⟩:=bf h;obtain⟨val,h2,h⟩:=bf h;obtain⟨h3,h4,hy,mr⟩:=gW h;have e:=Gx hm;have hv:=fun b (h4:val x.2=some (.bool b))=>(show(dP E.P op).val (bh E.P E.sp E.F n) t (iE D s)= .ok (.bool b) (E.cs<|iE D s) by rw[e];exact Bu (P:=E.P) h1<|hE.u0 _ _ _ _ _ m h2 h4 h3);exact adD h4 hy mr (fun q h=>hn _ _ _ (hv _ q) h) fun q h=>hn _ _ _ (hv _ q) h
    ·obtain⟨x,h1,h2,h⟩:=bf h;exact hn _ _ _ (Bu h1 h2) h
    ·obtain⟨x,h1,h2,h3,h⟩:=bf h;exact hn _ _ _ (Bu h1<|h2 _ h3) h
    ·obtain⟨x,h1,h⟩:=bf h;obtain⟨a,h2,h⟩:=bf h;obtain⟨a',h3,h⟩:=bf h;obtain⟨b,h4,h⟩:=bf h;obtain⟨m,h5,h⟩:=bf h;obtain⟨i1,h6,h⟩:=bf h;obtain⟨hb,k1,k2,k3,k4,k5,k6,k7,h⟩:=gW h;obtain⟨b1,hb⟩:=and_true.1 hb;obtain⟨b0,hb⟩:=and_true.1 hb;obtain⟨b2,hb⟩:=and_true.1 hb;obtain⟨b3,hb⟩:=and_true.1 hb;obtain⟨b4,b5⟩:=and_true.1 hb;have b1:=Nat.eq_of_beq_eq_true b1;obtain⟨ty,e,e1,e2,e3,e4,e5⟩:=Jh h6;cases iI:E.P.info? e with
     |none=>rw[iI] at e3;cases e3
     |some i0=>rw[iI] at e3;simp only[Option.map_some,Option.some.injEq,Prod.mk.injEq] at e3;obtain⟨q1,q2,q3⟩:=e3;rw[adC h3,k1,k2,b1, ←q1] at h2;rw[abD h5] at h4;rw[←q1] at k5 k7 h b0;rw[←q2] at k6 e5;refine kD _ _ _ _ _ b5 ?_ h;rw[Jg h1];obtain⟨rd,wr,d1,d2,d3,d4⟩:=agE h2 h4 e1 e2 iI (by rw[q3,e4];rfl) k3 k4 (by rw[b2,b3,b4];rfl) k5 ((blt_eq _ _).mp b0) e5 k6 k7;exact⟨rd,wr,fun k hk=>by rcases d1 k hk with rfl|rfl|h;exact .inl jJ;exact .inl jJ;exact .inr h,fun k hk=>by rcases d2 k hk with rfl|h;exact .inl jJ;exact .inr h,d3,d4⟩
    ·obtain⟨x,h1,h⟩:=bf h;obtain⟨a,h2,h⟩:=bf h;obtain⟨a',h3,h⟩:=bf h;obtain⟨ad,h4,h⟩:=bf h;obtain⟨z,h5,h⟩:=bf h;obtain⟨z',h6,h⟩:=bf h;obtain⟨K1,h7,h⟩:=bf h;obtain⟨h8,h9,gH,h⟩:=gW h;refine hn _ _ _ ?_ h;rw[Nl h1];rw[aa7 h3,h4] at h2;obtain⟨n0,o0⟩:=ad;have h8:o0=0:=Nat.eq_of_beq_eq_true h8;subst h8;rw[rT h6] at h5;exact ah2 h2 h5 h7 h9 gH
    ·obtain⟨x,h1,h⟩:=bf h;obtain⟨a,h2,h⟩:=bf h;obtain⟨a',h3,h⟩:=bf h;obtain⟨z,h5,h⟩:=bf h;obtain⟨z',h6,h⟩:=bf h;obtain⟨K1,h7,h9,gH,h⟩:=bf h;refine hn _ _ _ ?_ h;rw[Nl h1];rw[N6 h3] at h2;rw[rT h6] at h5;exact agK h2 h5 h7 h9 gH
    ·obtain⟨x,h1,h⟩:=bf h;obtain⟨a,h2,h⟩:=bf h;obtain⟨a',h3,h⟩:=bf h;obtain⟨ag,h4,h⟩:=bf h;obtain⟨k1,h5,h⟩:=bf h;obtain⟨h6,h⟩:=gW h;obtain⟨h7,h⟩:=gW h;obtain⟨v,h8,h9,h⟩:=bf h;refine hn _ _ _ ?_ h;rw[Jc h1];rw[Js h3] at h2;exact Qs h2 h4 h5 h6 h7 h8 h9
    ·obtain⟨x,h1,h⟩:=bf h;obtain⟨a,h2,h⟩:=bf h;obtain⟨a',h3,h⟩:=bf h;obtain⟨ag,h4,h⟩:=bf h;obtain⟨h5,h⟩:=gW h;obtain⟨h7,h8,hy,mr⟩:=gW h;have h5:ag=false:=by simpa using h5
     subst h5;rw[Js h3] at h2;exact acs hy mr (fun e h=>hn _ _ _ (by rw[Jc h1];exact Qs h2 h4 rfl rfl h7 rfl<|by rw[h8,e]) h) fun e h=>hn _ _ _ (by rw[Jc h1];exact Qs h2 h4 rfl rfl h7 rfl<|by rw[h8,e]) h
    ·obtain⟨x,h1,h⟩:=bf h;obtain⟨a,h2,h⟩:=bf h;obtain⟨a',h3,h⟩:=bf h;obtain⟨ag,h4,h⟩:=bf h;obtain⟨z,hz,h⟩:=bf h;obtain⟨k1,h5,h⟩:=bf h;obtain⟨v,h8,h9,gH,h⟩:=bf h;refine hn _ _ _ ?_ h;rw[Jc h1];rw[abE h3] at h2;exact agM h2 h4 hz h5 h8 h9 gH
    ·obtain⟨x,h1,h⟩:=bf h;obtain⟨a,h2,h⟩:=bf h;obtain⟨a',h3,h⟩:=bf h;obtain⟨v,h4,h⟩:=bf h;obtain⟨k1,h5,h⟩:=bf h;obtain⟨h6,h⟩:=gW h;obtain⟨h7,h⟩:=gW h;obtain⟨h8,h⟩:=gW h;obtain⟨h9,gH,h⟩:=gW h;refine hn _ _ _ ?_ h;rw[aat h1];rw[Js h3] at h2;exact agL h2 h4 h5 h6 h7 h8 h9 gH
    ·obtain⟨x,h1,h⟩:=bf h;obtain⟨h6,h⟩:=gW h;obtain⟨a,h2,h⟩:=bf h;obtain⟨b,h3,h⟩:=bf h;obtain⟨a1,h4,h⟩:=bf h;obtain⟨b1,h5,h⟩:=bf h;obtain⟨h8,h7,h⟩:=gW h;have ea:x.1= .rem:=by revert h6;split<;>intro h6<;>first|assumption|cases h6
     have h8:=of_decide_eq_true h8;refine hn _ _ _ ?_ h;rw[S0 h1];rw[rT h4] at h2;rw[rT h5, ←h8] at h3;exact ah3 ea h2 h3 h7
    ·obtain⟨x,h1,h⟩:=bf h;obtain⟨a,h2,h⟩:=bf h;obtain⟨a',h3,h⟩:=bf h;obtain⟨b,h4,h⟩:=bf h;obtain⟨b',h5,h⟩:=bf h;obtain⟨i1,h6,h⟩:=bf h;obtain⟨hb,k1,k2,k3,k4,k5,k6,k7,k8,h⟩:=gW h;obtain⟨b1,hb⟩:=and_true.1 hb;obtain⟨b2,hb⟩:=and_true.1 hb;obtain⟨b3,b4⟩:=and_true.1 hb;obtain⟨ty,e,e1,e2,e3,e4,e5⟩:=Jh h6;cases iI:E.P.info? e with
     |none=>rw[iI] at e3;cases e3
     |some i0=>rw[iI] at e3;simp only[Option.map_some,Option.some.injEq,Prod.mk.injEq] at e3;obtain⟨q1,q2,q3⟩:=e3;rw[BE h3] at h2;rw[N6 h5] at h4;rw[←q1] at k4 k6 k8 h b1;rw[←q2] at k7 e5;refine kD _ _ _ _ _ b4 ?_ h;rw[Jg h1];obtain⟨rd,wr,d1,d2,d3,d4⟩:=agD (s:=iE D s) (SG:=bh E.P E.sp E.F n) h2 k1 h4 e1 e2 iI (by rw[q3,e4];rfl) b1 k3 (fun s'=>adE k4) k5 k2 (by rw[b2,b3];rfl) k6 e5 k7 k8;exact⟨rd,wr,fun k hk=>by rcases d1 k hk with rfl|h;exact .inl jJ;exact .inr h,fun k hk=>by rcases d2 k hk with rfl|h;exact .inl jJ;exact .inr h,d3,d4⟩
    ·obtain⟨x,h1,h⟩:=bf h;obtain⟨a,h2,h⟩:=bf h;obtain⟨a',h3,h⟩:=bf h;obtain⟨K1,h4,h⟩:=bf h;obtain⟨mQ,h5,h⟩:=bf h;obtain⟨iI,h6,h7,h8,h9,k1,k2,k3,h⟩:=bf h;subst h7;subst h8;rw[N6 h3] at h2;refine hn _ _ _ ?_ h;rw[SK h1];exact ah4 h2 h4 h5 h6 h9 k1 k2 k3
    ·obtain⟨x,h1,h2,h⟩:=bf h;exact hn _ _ _ (abC h1 h2) h
    ·obtain⟨x,h1,h⟩:=bf h;obtain⟨a,h2,h⟩:=bf h;obtain⟨a',h3,h⟩:=bf h;obtain⟨z,h5,h⟩:=bf h;obtain⟨z',h6,h⟩:=bf h;obtain⟨K1,h7,h9,gH,h⟩:=bf h;refine hn _ _ _ ?_ h;rw[Nl h1];rw[Js h3] at h2;rw[rT h6] at h5;exact agJ h2 h5 h7 h9 gH
    ·obtain⟨x,h1,h⟩:=bf h;obtain⟨m,hm,h⟩:=bf h;obtain⟨q,h2,h⟩:=bf h;obtain⟨z,h3,h⟩:=bf h;obtain⟨u,h4,h⟩:=bf h;obtain⟨h5,h6,h⟩:=gW h;obtain⟨c1,h5⟩:=and_true.1 h5;obtain⟨c2,h5⟩:=and_true.1 h5;obtain⟨c3,h5⟩:=and_true.1 h5;obtain⟨c4,c5⟩:=and_true.1 h5;have e:=Gx hm;have c2:q.1=u.1:=Nat.eq_of_beq_eq_true c2;refine hn _ _ _ ?_ h;rw[e];refine Bu h1 ?_;rw[aa9 h3];exact hE.tt _ _ _ _ _ _ _ _ _ h2 c1 c3 c4 c5 (by rw[acu h4,c2]) h6
    ·obtain⟨x,h1,h⟩:=bf h;obtain⟨m,hm,h⟩:=bf h;obtain⟨q,h2,h⟩:=bf h;obtain⟨h5,h6,h⟩:=gW h;obtain⟨c1,c2⟩:=and_true.1 h5;have e:=Gx hm;refine hn _ _ _ ?_ h;rw[e];exact Bu h1<|hE.tn _ _ _ _ _ _ _ h2 c1 c2 h6
    ·obtain⟨x,h1,h⟩:=bf h;obtain⟨a,h2,h⟩:=bf h;obtain⟨n',h3,h⟩:=bf h;obtain⟨i',h4,h⟩:=bf h;obtain⟨i1,h5,h⟩:=bf h;obtain⟨y,h6,h⟩:=bf h;obtain⟨hb,h7,h8,h9⟩:=gW h;obtain⟨b1,hb⟩:=and_true.1 hb;obtain⟨b2,hb⟩:=and_true.1 hb;obtain⟨b3,hb⟩:=and_true.1 hb;obtain⟨b4,b5⟩:=and_true.1 hb;rw[Ui h3] at h2;rw[rT h5,N5 b3] at h4;have key:=agF (P:=E.P) (SG:=bh E.P E.sp E.F n) h2 h4 (TB h6) b1 b2 (adB b4) h7 b5;rw[←aas h1] at key;cases hq:lO _ i1.2 with
     |true=>rw[hq,if_pos rfl] at key;exact hn _ _ _ key<|h8 hq
     |false=>rw[hq,if_neg (by intro e;cases e)] at key;exact hn _ _ _ key<|h9 hq
    ·obtain⟨x,h1,h⟩:=bf h;obtain⟨a,h2,h⟩:=bf h;obtain⟨n',h3,h⟩:=bf h;obtain⟨i',h4,h⟩:=bf h;obtain⟨i1,h5,h⟩:=bf h;obtain⟨v',h8,h⟩:=bf h;obtain⟨v1,h9,h⟩:=bf h;obtain⟨y,h6,h⟩:=bf h;obtain⟨hb,h7,h⟩:=gW h;obtain⟨b1,hb⟩:=and_true.1 hb;obtain⟨b2,hb⟩:=and_true.1 hb;obtain⟨b3,hb⟩:=and_true.1 hb;obtain⟨b4,hb⟩:=and_true.1 hb;obtain⟨b5,b6⟩:=and_true.1 hb;refine hn _ _ _ ?_ h;rw[aaO h1];rw[Ui h3] at h2;rw[rT h5,N5 b3] at h4;rw[rT h9,N5 b4] at h8;exact agG h2 h4 h8 (TB h6) b1 b2 h7 b5 b6
    ·obtain⟨x,h1,h⟩:=bf h;obtain⟨a,h2,h⟩:=bf h;obtain⟨a',h3,h⟩:=bf h;obtain⟨K1,h4,h⟩:=bf h;obtain⟨mQ,h5,h⟩:=bf h;obtain⟨iI,h6,h⟩:=bf h;obtain⟨h7,h8,h9,k1,hz⟩:=gW h;rw[h8] at h5;rw[BE h3] at h2;refine hn _ _ _ ?_ hz;rw[SK h1];exact ah5 h2 h4 h5 h6 h7 h9 k1
    ·obtain⟨x,h1,h⟩:=bf h;obtain⟨a,h2,h⟩:=bf h;obtain⟨a',h3,h⟩:=bf h;obtain⟨K1,h4,h⟩:=bf h;obtain⟨hi,h5,h⟩:=bf h;obtain⟨iI,h6,h⟩:=bf h;obtain⟨mx,h7,h⟩:=bf h;obtain⟨FN,h8,h⟩:=bf h;obtain⟨h9,k1,k2,k3,h⟩:=gW h;rw[BE h3] at h2;rw[rT h6] at h5;rw[rT h8] at h7;refine hn _ _ _ ?_ h;rw[aan h1];exact ah6 h2 h4 h5 h7 h9 k1 k2 k3
    ·obtain⟨x,h1,h⟩:=bf h;obtain⟨a,h2,h⟩:=bf h;obtain⟨a',h3,h⟩:=bf h;obtain⟨b,h4,h⟩:=bf h;obtain⟨b',h5,h⟩:=bf h;obtain⟨i1,h6,h⟩:=bf h;obtain⟨hb,k0,k1,k2,k3,k4,k5,k6,k7,k8,k9,td,za,h⟩:=gW h;obtain⟨b1,hb⟩:=and_true.1 hb;obtain⟨b2,hb⟩:=and_true.1 hb;obtain⟨b3,b4⟩:=and_true.1 hb;obtain⟨ty,e,e1,e2,e3,e4,e5⟩:=Jh h6;cases iI:E.P.info? e with
     |none=>rw[iI] at e3;cases e3
     |some i0=>rw[iI] at e3;simp only[Option.map_some,Option.some.injEq,Prod.mk.injEq] at e3;obtain⟨q1,q2,q3⟩:=e3;rw[BE h3,k0] at h2;rw[BE h5] at h4;rw[←q1] at k6 k7 k8 h;rw[←q2] at td e5;refine kD _ _ _ _ _ b4 ?_ h;rw[Jg h1];obtain⟨rd,wr,d1,d2,d3,d4⟩:=agH (s:=iE D s) (SG:=bh E.P E.sp E.F n) h2 h4 e1 e2 iI (by rw[q3,e4];rfl) k1 k2 k3 k4 k5 k6 k7 k8 (by rw[b1,b2,b3];rfl) k9 e5 td za;exact⟨rd,wr,fun k hk=>by rcases d1 k hk with rfl|rfl|h;exact .inl jJ;exact .inl jJ;exact .inr h,fun k hk=>.inr<|d2 k hk,d3,d4⟩
    ·obtain⟨x,h1,h⟩:=bf h;obtain⟨a,h2,h⟩:=bf h;obtain⟨a',h3,h⟩:=bf h;obtain⟨b,h4,h⟩:=bf h;obtain⟨b',h5,h⟩:=bf h;obtain⟨i1,h6,h⟩:=bf h;obtain⟨hb,k0,kk,k1,k2,k3,k4,k5,k6,k7,k8,k9,td,za,h⟩:=gW h;obtain⟨b0,hb⟩:=and_true.1 hb;obtain⟨b1,hb⟩:=and_true.1 hb;obtain⟨b2,b3⟩:=and_true.1 hb;obtain⟨ty,e,e1,e2,e3,e4,e5⟩:=Jh h6;cases iI:E.P.info? e with
     |none=>rw[iI] at e3;cases e3
     |some i0=>rw[iI] at e3;simp only[Option.map_some,Option.some.injEq,Prod.mk.injEq] at e3;obtain⟨q1,q2,q3⟩:=e3;rw[BE h3,k0] at h2;rw[BE h5] at h4;rw[←q1] at k6 k7 k8 h b0;rw[←q2] at td e5;refine hn _ _ _ ?_ h;rw[Jg h1];exact agI (s:=iE D s) (SG:=bh E.P E.sp E.F n) h2 h4 e1 e2 iI (by rw[q3,e4];rfl) kk k1 (by unfold yq at b0;exact(blt_eq _ _).mp b0) k2 k3 k4 k5 k6 k7 k8 (by rw[b1,b2,b3];rfl) k9 e5 td za
    ·obtain⟨x,h1,h⟩:=bf h;obtain⟨m,hm,h⟩:=bf h;have e:=Gx hm;split at h
     ·exact h.elim
     ·rename_i u6;obtain⟨fn,ch,h⟩:=bf h;obtain⟨body,cw,h⟩:=bf h;obtain⟨dE,h⟩:=gW h;obtain⟨pn,h⟩:=gW h;have dE:(fn.name == "runtime.NumGoroutine")=false:=by simpa using dE
      have H:=ih m _ _ _ nx (fun _ _ _=>False) (Ev E.P (bh E.P E.sp E.F m) fun aQ jm s1=>∃v s2 p,finish E.P fn.results.toList aQ jm s1= .ok v s2/\nx v s2 p) Chunk.ev (fun fr s j aQ jm s1 v s2 p q1 q2 q3=>⟨j,aQ,jm,s1,q1,v,s2,p,q2,q3⟩) (fun _ _ _ q=>q.elim) (fun _ _ _ _ _ _ _ _ _ _ _ _ _ _ _ q=>q.elim) (fun _ _ _ _ _ _ _ _ _ _ _ _ _ _ _ q=>q.elim) (fun _ _ _ _ _ _ _ _ _ _ _ _ _ _ _ _ q=>q.elim) h;obtain⟨j,aQ,jm,s1,q1,v,s2,p,q2,q3⟩:=H;refine hn _ _ _ (Bu h1 ?_) q3;rw[e];show j8 E.P E.sp x.1 (bh E.P E.sp E.F m) x.2 _=_;rw[OH u6 ch cw dE];unfold vK;rw[pn,dA,M.bO<|JC q1];exact q2
    ·exact h.elim
theorem ax{B:Prop}(c:Prop)(x:c->A)(y:¬c->B):(c->A)/\(¬c->B):=⟨x,y⟩
theorem av.back{P:Program}{s:AS}{t:Tr AV}{nt f:Nat}{K:List Item}{o:List<|Nat×Option ae}{nx:Nat}(hl:qj top l=true)(ho:qj nx o=true)(hn:(Nat.ble nx s.nx&&(Nat.blt s.nx top&&Nat.ble U nx))=true)(hg:fH<=U)(ht:yp t l)(hh:yF s.h o)(he:yI nx l o)(H:av P B U Q ⟨f,aP l,nt,K,[],none⟩<|aj o nx):av P B U Q ⟨f,t,nt,K,[],none⟩ s:=by
 obtain⟨n1,n2⟩:=and_true.1 hn;obtain⟨n2,n3⟩:=and_true.1 n2;have n1:=aL.1 n1;have n2:=(blt_eq _ _).mp n2;have n3:=aL.1 n3;let r:Nat->Nat:=fun k=>if k<nx\/top<=k then k else max k s.nx
 have r1:∀k,k<nx->r k=k:=fun k hk=>by show(if _ then _ else _)=_;rw[if_pos<|.inl hk]
 have r2:∀k,top<=k->r k=k:=fun k hk=>by show(if _ then _ else _)=_;rw[if_pos<|.inr hk]
 obtain⟨e1,e2⟩:=he r r1 r2;refine av.weaken (s2:=aj o nx) (t2:=aP l) [] r (fun k hk=>r1 k ak) (fun k hk ht=>?_) r2 hg ⟨Nat.zero_le _,by show nx<=top;omega⟩ rfl rfl (fun _ h=>by cases h) (fun i y hy=>?_) (fun n o2 hn hg=>?_) (fun _ h=>by cases h) (fun n m x y hn hm h1 h2 e=>?_) H
 ·have rz:nx<=k:=hk;show s.nx<=(if _ then _ else _)/\(if _ then _ else _)<top;rw[if_neg ak];omega
 ·have hm:=GP (fun p hp=>xG hl p hp) hy;exact⟨y,ht.mem _ hm,(e1 _ hm).z⟩
 ·have cZ:∀p∈o,p.1<top:=fun p hp=>by have:=xG ho p hp;omega
  have hm:=xF cZ hg;obtain⟨h1,h2⟩:=hh.mem _ hm;have cF:n<nx:=xG ho _ hm;rw[r1 n cF];exact⟨hn,.inl<|h2 o2 rfl,o2,h1,fm.refl _,(e2 _ hm o2 rfl).z⟩
 ·have cZ:∀p∈o,p.1<top:=fun p hp=>by have:=xG ho p hp;omega
  have a1:n<nx:=xG ho _<|xF cZ h1;have a2:m<nx:=xG ho _<|xF cZ h2;rw[r1 n a1,r1 m a2] at e;exact e
theorem av.rn{P:Program}{s:AS}{t:Tr AV}{nt f:Nat}{K:List Item}{l0:List<|Nat×AV}{o0 o:List<|Nat×Option ae}{nx:Nat}(hg:fH<=U)(h1:l0.map (fun q=>t.get q.1)=l0.map (fun q=>some q.2))(h2:o0.map (fun q=>s.h.get q.1)=o0.map (fun q=>q.2))(hw:gY B.F U s.nx l0 o0 l o nx)(H:av P B U Q ⟨f,aP l,nt,K,[],none⟩<|aj o nx):av P B U Q ⟨f,t,nt,K,[],none⟩ s:=by
 obtain⟨fz,r,r1,r2,r3,r4,r5,r6,r7,r8,r9⟩:=hw;have hs:∀(l0:List<|Nat×AV),l0.map (fun q=>t.get q.1)=l0.map (fun q=>some q.2)->∀p∈l0,t.get p.1=some p.2:=by
  intro l0;induction l0 with
  |nil=>intro _ p hp;cases hp
  |cons a l ih=>
   intro h p hp;simp only[List.map_cons,List.cons.injEq] at h;rcases List.mem_cons.1 hp with rfl|hp
   ·exact h.1
   ·exact ih h.2 p hp
 have ho:∀(o0:List<|Nat×Option ae),o0.map (fun q=>s.h.get q.1)=o0.map (fun q=>q.2)->∀p∈o0,s.h.get p.1=p.2:=by
  intro o0;induction o0 with
  |nil=>intro _ p hp;cases hp
  |cons a l ih=>
   intro h p hp;simp only[List.map_cons,List.cons.injEq] at h;rcases List.mem_cons.1 hp with rfl|hp
   ·exact h.1
   ·exact ih h.2 p hp
 have zb:∀n y,n<top->(fL o).get n=some y->(n,some y)∈o:=fun n y hn hg=>xF (fun p hp=>(r6 p hp).1) hg;refine av.weaken (s2:=aj o nx) (t2:=aP l) fz r r1 (fun k hk ht=>r2 k hk ht) r3 hg ⟨Nat.zero_le _,r4⟩ rfl rfl (fun p hp=>?_) (fun i y hy=>?_) (fun n y hn hg=>?_) (fun p hp n y hn hg=>?_) (fun n m x y hn hm e1 e2 e=>?_) H
 ·obtain⟨q1,q2,N,t',z,q3,q4⟩:=r8 p hp;exact⟨q1,q2,N,t',z,ho o0 h2 _ q3,fun i x hx=>by obtain⟨i1,i2,i3,i4⟩:=q4 i x hx;exact⟨i1,i2,i3,fun ρ v hv=>AV.uc agC i4 hv⟩⟩
 ·have hm:=GP (fun p hp=>(r5 p hp).1) hy;obtain⟨_,x,hx,hv⟩:=r5 _ hm;exact⟨x,hs l0 h1 _ hx,hv⟩
 ·obtain⟨_,q⟩:=r6 _<|zb n y hn hg;obtain⟨q1,q2,x,q3,q4,q5⟩:=q y rfl;exact⟨q1,.inl q2,x,ho o0 h2 _ q3,q4,q5⟩
 ·exact r9 p hp _ (zb n y hn hg) jJ
 ·exact r7 _ (zb n x hn e1) _ (zb m y hm e2) jJ jJ e
theorem yb{E:Env}(hE:E.Ok){P:Program}(hP:E.P=P){f nt:Nat}{t:Tr AV}{K:List Item}{s:AS}{R:AV->AS->Prop}(bU:P.follows .mixedOrders=true)(hc:fR P B<|bh E.P E.sp E.F n)(hl:∀t a,SF<|bh E.P E.sp E.F n t a)(hg:fH<=U)(gI:E.lo=U)(hF:B.F=E.F){C:AB}(hC:∀fr s p,C fr s p->av P B U (Fin P rs R) fr s)(fuel:Nat)(p:Pl)(x:T)(h:T=wp E fuel n (.fr f nt K t s) p rs (fun v s _=>R v s) C:=by as_aux_lemma=>kernel_rfl)(h0:Nat.ble U s.nx=true:=by as_aux_lemma=>kernel_rfl):av P B U (Fin P rs R) ⟨f,t,nt,K,[],none⟩ s:=by
 subst hP;have H:=D2 hE fuel n (.fr f nt K t s) p rs (fun v s _=>R v s) C (AA E.P B U<|Fin E.P rs R) (Chunk.F0 bU hc hl)
  (fun fr s j aQ jm s1 v s2 p q1 q2 q3 h0=>av.leave bU hc hl q1 h0 ⟨v,s2,by rw[←Gv];exact q2,q3⟩) (fun fr s p q _=>hC fr s p q)
  (fun f nt K t s l o nx p _ q1 q2 q3 q4 q5 q6 _=>av.less q1 q2 q3 hg q4 q5<|hC _ _ _ q6) (fun f nt K t s l0 o0 l o nx p _ q1 q2 q3 q4 _=>av.rn hg q1 q2 (by rw[←gI,hF];exact q3)<|hC _ _ _ q4) (fun f nt K t s l o nx p _ q1 q2 q3 q4 q5 q6 q7 _=>av.back q1 q2 (by rw[←gI];exact q3) hg q4 q5 q6<|hC _ _ _ q7) (h▸x)
 exact AA.start h0 H
theorem l9{E:Env}(hE:E.Ok){P:Program}(hP:E.P=P){f nt:Nat}{t:Tr AV}{K:List Item}{s:AS}{R:AV->AS->Prop}(bU:P.follows .mixedOrders=true)(hc:fR P B<|bh E.P E.sp E.F n)(hl:∀t a,SF<|bh E.P E.sp E.F n t a)(fuel:Nat)(p:Pl)(x:T)(h:T=wp E fuel n (.fr f nt K t s) p rs (fun v s _=>R v s) (fun _ _ _=>False):=by as_aux_lemma=>kernel_rfl)(h0:Nat.ble U s.nx=true:=by as_aux_lemma=>kernel_rfl):av P B U (Fin P rs R) ⟨f,t,nt,K,[],none⟩ s:=by subst hP;have H:=D2 hE fuel n (.fr f nt K t s) p rs (fun v s _=>R v s) (fun _ _ _=>False) (AA E.P B U<|Fin E.P rs R) (Chunk.F0 bU hc hl) (fun fr s j aQ jm s1 v s2 p q1 q2 q3 h0=>av.leave bU hc hl q1 h0 ⟨v,s2,by rw[←Gv];exact q2,q3⟩) (fun _ _ _ q=>q.elim) (fun _ _ _ _ _ _ _ _ _ _ _ _ _ _ _ q=>q.elim) (fun _ _ _ _ _ _ _ _ _ _ _ _ _ _ _ q=>q.elim) (fun _ _ _ _ _ _ _ _ _ _ _ _ _ _ _ _ q=>q.elim)<|h▸x;exact AA.start h0 H
def mT(E:Env)(n:Nat)(rs:List ResultVar)(R:AV->AS->Prop)(fr:AF)(s:AS):Prop:=Ev E.P (bh E.P E.sp E.F n) (fun aQ jm s1=>∃v s2,finish E.P rs aQ jm s1= .ok v s2/\R v s2) fr s
theorem wc{E:Env}(hE:E.Ok)(u7:E.fg=false){f nt:Nat}{t:Tr AV}{K:List Item}{s:AS}{R:AV->AS->Prop}{C:AB}(hC:∀fr s p,C fr s p->mT E n rs R fr s)(fuel:Nat)(p:Pl)(x:T)(h:T=wp E fuel n (.fr f nt K t s) p rs (fun v s _=>R v s) C:=by as_aux_lemma=>kernel_rfl):mT E n rs R ⟨f,t,nt,K,[],none⟩ s:=D2 hE fuel n (.fr f nt K t s) p rs (fun v s _=>R v s) C (mT E n rs R) Chunk.ev (fun fr s j aQ jm s1 v s2 p q1 q2 q3=>⟨j,aQ,jm,s1,q1,v,s2,q2,q3⟩) hC (fun _ _ _ _ _ _ _ _ _ q=>by rw[u7] at q;cases q) (fun _ _ _ _ _ _ _ _ _ _ _ q=>by rw[u7] at q;cases q) (fun _ _ _ _ _ _ _ _ _ q=>by rw[u7] at q;cases q)<|h▸x
theorem mT.call{E:Env}{g:Nat}{fn:Func}{body:Code}{args:List AV}{s:AS}{R:AV->AS->Prop}(ch:E.P.funcs[g]? =some fn)(cw:fn.body=some body)(H:mT E n fn.results.toList R ⟨g,eg args,max fn.ntmps args.length,[.code body],[],none⟩ s)(h0:((fn.name == "runtime.NumGoroutine"),(E.sp g).isNone,Nat.ble (max fn.ntmps args.length) top)=(false,true,true):=by as_aux_lemma=>kernel_rfl):∃v s2,bh E.P E.sp E.F (n+1) (.fn g) args s= .ok v s2/\R v s2:=by
 injection h0 with dE h0
 injection h0 with u6 pn
 have aj1:E.sp g=none:=Option.isNone_iff_eq_none.1 u6;obtain⟨j,aQ,jm,s1,q1,v,s2,q2,q3⟩:=H;refine⟨v,s2,?_,q3⟩;show j8 E.P E.sp g (bh E.P E.sp E.F n) args s=_;rw[OH aj1 ch cw dE];unfold vK;rw[pn,dA,M.bO<|JC q1];exact q2
end Go.Rn
namespace Go.Rn
open Go.RowKit
variable {α:Type} {l:List α} {i K:Nat} {enc:α->List AV} {c c0 c':α} {r:List AV}
theorem tfb{A B:Prop}(b:Bool)(x:b=true->A)(y:b=false->B):(b=true->A)/\(b=false->B):=⟨x,y⟩
theorem nr(he:∀x,(enc x).length=K)(hl:l.length*K<=top)(hc:l[i]? =some c)(j k:Nat)(hj:Nat.ble (j+k) K=true):cellsOf (some<|aJ enc l) (i*K+j) k=some (((enc c).drop j).take k):=by have wR:=aL.1 hj;obtain⟨q1,q2⟩:=VN he (k:=k) hc wR;show(match Nat.ble (i*K+j+k) (l.map enc).flatten.length with|true=>l6 (Tr.fill (l.map enc).flatten 0 .nil) [] k (i*K+j)|false=>none)=_;rw[aL.2 q1];show l6 (Tr.fill (l.map enc).flatten 0 .nil) [] k (i*K+j)=_;rw[Nu (by rw[zG he];exact hl) _ _ q1,q2]
theorem aeV(he:∀x,(enc x).length=K)(hl:l.length*K<=top)(hc:l[i]? =some c0)(j k:Nat)(hj:Nat.ble (j+k) K=true):cellsOf (some<|aJ enc<|l.set i c) (i*K+j) k=some (((enc c).drop j).take k):=nr he (by rw[List.length_set];exact hl) (UX hc) j k hj
theorem Em(he:∀x,(enc x).length=K)(hl:l.length*K<=top)(hc:l[i]? =some c)(j:Nat)(hr:enc c'=iu (enc c) j r)(hj:Nat.ble (j+r.length) K=true)(h1:r.all AV.cj=true):wa (some<|aJ enc l) (i*K+j) r=some (aJ enc<|l.set i c'):=by
 have wR:=aL.1 hj;obtain⟨q1,_⟩:=VN he (k:=r.length) hc wR;have HR:=ady he hc hr wR;have hlen:(l.map enc).flatten.length<=top:=by rw[zG he];exact hl
 show(match (Nat.ble (i*K+j+r.length) (l.map enc).flatten.length&&(Nat.ble (l.map enc).flatten.length top&&r.all AV.cj)) with|true=>some (ae.cells (l.map enc).flatten.length (Tr.fill r (i*K+j)<|Tr.fill (l.map enc).flatten 0 .nil) [])|false=>none)=_;rw[show(Nat.ble (i*K+j+r.length) (l.map enc).flatten.length&&(Nat.ble (l.map enc).flatten.length top&&r.all AV.cj))=true from and_true.2 ⟨aL.2 q1,and_true.2 ⟨aL.2 hlen,h1⟩⟩];show some _=some _;congr 1;unfold aJ;rw[Ug r _ _ q1 hlen,HR,zG he,zG he,List.length_set]
theorem aeW(he:∀x,(enc x).length=K)(hl:l.length*K<=top)(hc:l[i]? =some c0)(j:Nat)(hr:enc c'=iu (enc c) j r)(hj:Nat.ble (j+r.length) K=true)(h1:r.all AV.cj=true):wa (some<|aJ enc<|l.set i c) (i*K+j) r=some (aJ enc<|l.set i c'):=by rw[Em he (by rw[List.length_set];exact hl) (UX hc) j hr hj h1,List.set_set]
end Go.Rn
namespace Go.Rn
open Go.RowKit
def H5(nx:Nat)(x:AV):Bool:=match x with
 | .ab n _ _=>Nat.blt n nx&&Nat.blt n top
 | .func (.func _) [] []=>true
 | .slice none 0 (.known 0)=>true
 |x=>x.flat
theorem bA.acv{r:Nat->Nat}{n o len:Nat}(e:r n=n)(h:n<top):bA r (.ab n o len)<|.ab n o len:=by intro ρ v k;simp only[VR] at k ⊢;exact k.imp id fun⟨b,sh,c,h1,h2⟩=>⟨b,sh,c,.inl ⟨by omega,(congrArg ρ e).trans<|h1.low ak⟩,h2⟩
theorem U1{nx:Nat}{x:AV}{r:Nat->Nat}(r1:∀k,k<nx->r k=k)(h:H5 nx x=true):bA r x x:=by
 unfold H5 at h;split at h
 ·obtain⟨h1,h2⟩:=and_true.1 h;exact bA.acv (r1 _<|(blt_eq _ _).mp h1)<|(blt_eq _ _).mp h2
 ·intro ρ v k;simp only[VR,az] at k ⊢;exact k
 ·exact bA.adw
 ·exact bA.flat h
noncomputable def H6(nx:Nat)(t:Tr AV):Nat->Bool
 |0=>true
 |n+1=>(match t.get n with|some x=>H5 nx x|none=>true)&&H6 nx t n
theorem Pj{nx:Nat}{t:Tr AV}:∀{n i:Nat} {x:AV},H6 nx t n=true->i<n->t.get i=some x->H5 nx x=true
 |0,_,_,_,h,_=>by omega
 |n+1,i,x,h,hi,hx=>by
  obtain⟨h1,h2⟩:=and_true.1 (show((match t.get n with|some x=>H5 nx x|none=>true)&&H6 nx t n)=true from h);by_cases q:i=n
  ·subst q;rw[hx] at h1;exact h1
  ·exact Pj h2 ak hx
noncomputable def QY(nx:Nat)(o:ae):Bool:=match o with
 | .ro n t=>H6 nx t n
 | .ur n t=>H6 nx t n
 |_=>false
theorem adF{nx:Nat}{o:ae}{r:Nat->Nat}(r1:∀k,k<nx->r k=k)(h:QY nx o=true):su r o o:=by
 unfold QY at h;split at h
 ·intro ρ N ob k;simp only[OR] at k ⊢;obtain⟨c,e,fr,k1,k2,k3,k4⟩:=k;exact⟨c,e,fr,k1,k2,k3,fun i hi=>let ⟨x,v,a1,a2,a3,a4⟩:=k4 i hi;⟨x,v,a1,a2,a3,U1 r1 (Pj h hi a1) ρ v a4⟩⟩
 ·intro ρ N ob k;simp only[OR] at k ⊢;obtain⟨c,e,fr,k1,k4⟩:=k;exact⟨c,e,fr,k1,fun i hi=>let ⟨x,v,a1,a2,a3,a4⟩:=k4 i hi;⟨x,v,a1,a2,a3,U1 r1 (Pj h hi a1) ρ v a4⟩⟩
 ·cases h
theorem GR{nx:Nat}{o:List<|Nat×Option ae}{r:Nat->Nat}(r1:∀k,k<nx->r k=k)(h:(o.all fun p=>match p.2 with|some x=>QY nx x|none=>true)=true):∀p∈o,∀x,p.2=some x->su r x x:=by intro p hp x hx;have:=List.all_eq_true.1 h p hp;rw[hx] at this;exact adF r1 this
end Go.Rn
namespace Go.Rn
theorem wW{α:Type}(enc:α->List AV)(l:List α)(c:α){K j9:Nat}{X:Prop}(h1:∀x,(enc x).length=K/\(enc x).all AV.cj=true)(h2:2*(l.length+1)*j9+4096*j9<=room)(h3:(l.length+1)*K<=Rn.top)(x:X):l.length=l.length/\l.length=l.length/\some (aJ enc l)=some (aJ enc l)/\some (ae.cells (enc c).length (Tr.fill (enc c) 0 .nil) [])=some (ae.cells (enc c).length (Tr.fill (enc c) 0 .nil) [])/\(∀x,(enc x).length=K/\(enc x).all AV.cj=true)/\2*(l.length+1)*j9+4096*j9<=room/\(l.length+1)*K<=Rn.top/\X:=⟨rfl,rfl,rfl,rfl,h1,h2,h3,x⟩
end Go.Rn
namespace Go.Rn
open Go.RowKit
variable {U K k:Nat} {α:Type} {ρ:aw} {v x:AV} {enc:α->List AV} {args cs:List AV} {w:World} {ns:List Nat} {h0 h:Tr ae} {B:aI}
def qS:List Nat->Nat
 |[]=>0
 |x::l=>pr x<|qS l
theorem WT(a b:Nat):0<pr a b:=Nat.mul_pos (Nat.pow_pos ak) ak
theorem Ob:∀{l m:List Nat},qS l=qS m->l=m
 |[],[],_=>rfl
 |[],x::m,h=>by have:=WT x<|qS m;simp only[qS] at h;omega
 |x::l,[],h=>by have:=WT x<|qS l;simp only[qS] at h;omega
 |x::l,y::m,h=>by obtain⟨h1,h2⟩:=fM (show pr x (qS l)=pr y (qS m) from h);rw[h1,Ob h2]
def yr:Int->Nat
 | .ofNat n=>2*n
 | .negSucc n=>2*n+1
theorem acw:∀{a b:Int},yr a=yr b->a=b
 | .ofNat n,.ofNat m,h=>by have h:2*n=2*m:=h;rw[show n=m by omega]
 | .ofNat n,.negSucc m,h=>by have h:2*n=2*m+1:=h;omega
 | .negSucc n,.ofNat m,h=>by have h:2*n+1=2*m:=h;omega
 | .negSucc n,.negSucc m,h=>by have h:2*n+1=2*m+1:=h;rw[show n=m by omega]
def yu:AV->Nat
 | .bool b=>pr 0 b.toNat
 | .int k n=>pr 1<|pr k.ctorIdx<|yr n
 | .str s=>pr 2<|qS<|s.data.toList.map UInt8.toNat
 | .ab n o len=>pr 3<|pr n<|pr o len
 | .nilFunc=>pr 4 0
 | .nilIface=>pr 4 1
 | .ptr none=>pr 4 2
 | .map none=>pr 4 3
 |_=>0
def AV.gi(x:AV):Bool:=match x with
 | .bool _| .int _ _| .str _| .nilFunc| .nilIface| .ptr none| .map none=>true
 | .ab n _ _=>Nat.ble top n
 |_=>false
theorem adG:∀{k l:IntKind},k.ctorIdx=l.ctorIdx->k=l:=by intro k l h;cases k<;>cases l<;>first|rfl|(exact absurd h iH)
theorem bytes_inj{s u:ByteArray}(h:s.data.toList.map UInt8.toNat=u.data.toList.map UInt8.toNat):s=u:=by
 have e:s.data.toList=u.data.toList:=by
  refine List.ext_getElem? fun i=>?_;have:=congrArg (fun l=>l[i]?) h;simp only[List.getElem?_map] at this;cases e1:s.data.toList[i]? with
  |none=>rw[e1] at this;cases e2:u.data.toList[i]? with
   |none=>rfl
   |some y=>rw[e2] at this;cases this
  |some x=>rw[e1] at this;cases e2:u.data.toList[i]? with
   |none=>rw[e2] at this;cases this
   |some y=>rw[e2] at this;simp only[Option.map_some,Option.some.injEq] at this;rw[UInt8.toNat_inj.1 this]
 obtain⟨⟨a⟩⟩:=s;obtain⟨⟨b⟩⟩:=u;have e:a=b:=e;rw[e]
theorem acx:∀{x y:AV},x.gi=true->y.gi=true->yu x=yu y->x=y:=by
 intro x y hx hy h;cases x<;>first|(cases hx;done)|skip
 case bool a=>
  cases y<;>first|(cases hy;done)|skip
  case bool b=>have:=(fM (show pr 0 a.toNat=pr 0 b.toNat from h)).2;cases a<;>cases b<;>first|rfl|(exact absurd this iH)
  case ptr b=>cases b<;>first|(cases hy;done)|(exact absurd (fM (show pr 0 a.toNat=pr 4 2 from h)).1 iH)
  case map b=>cases b<;>first|(cases hy;done)|(exact absurd (fM (show pr 0 a.toNat=pr 4 3 from h)).1 iH)
  all_goals exact absurd (fM (show pr 0 a.toNat=pr _ _ from h)).1 iH
 case int k n=>
  cases y<;>first|(cases hy;done)|skip
  case int k' n'=>obtain⟨h3,h4⟩:=fM (fM (show pr 1 (pr k.ctorIdx<|yr n)=pr 1 (pr k'.ctorIdx<|yr n') from h)).2;rw[adG h3,acw h4]
  case ptr b=>cases b<;>first|(cases hy;done)|(exact absurd (fM (show pr 1 _=pr 4 2 from h)).1 iH)
  case map b=>cases b<;>first|(cases hy;done)|(exact absurd (fM (show pr 1 _=pr 4 3 from h)).1 iH)
  all_goals exact absurd (fM (show pr 1 _=pr _ _ from h)).1 iH
 case str u=>
  cases y<;>first|(cases hy;done)|skip
  case str u'=>rw[bytes_inj<|Ob (fM (show pr 2 _=pr 2 _ from h)).2]
  case ptr b=>cases b<;>first|(cases hy;done)|(exact absurd (fM (show pr 2 _=pr 4 2 from h)).1 iH)
  case map b=>cases b<;>first|(cases hy;done)|(exact absurd (fM (show pr 2 _=pr 4 3 from h)).1 iH)
  all_goals exact absurd (fM (show pr 2 _=pr _ _ from h)).1 iH
 case ab n o l=>
  cases y<;>first|(cases hy;done)|skip
  case ab n' o' l'=>obtain⟨h3,h4⟩:=fM (fM (show pr 3 (pr n<|pr o l)=pr 3 (pr n'<|pr o' l') from h)).2;obtain⟨h5,h6⟩:=fM h4;rw[h3,h5,h6]
  case ptr b=>cases b<;>first|(cases hy;done)|(exact absurd (fM (show pr 3 _=pr 4 2 from h)).1 iH)
  case map b=>cases b<;>first|(cases hy;done)|(exact absurd (fM (show pr 3 _=pr 4 3 from h)).1 iH)
  all_goals exact absurd (fM (show pr 3 _=pr _ _ from h)).1 iH
 case nilFunc=>
  cases y<;>first|(cases hy;done)|rfl|skip
  case ptr b=>cases b<;>first|(cases hy;done)|(exact absurd (fM (show pr 4 0=pr 4 2 from h)).2 iH)
  case map b=>cases b<;>first|(cases hy;done)|(exact absurd (fM (show pr 4 0=pr 4 3 from h)).2 iH)
  case nilIface=>exact absurd (fM (show pr 4 0=pr 4 1 from h)).2 iH
  all_goals exact absurd (fM (show pr 4 0=pr _ _ from h)).1 iH
 case nilIface=>
  cases y<;>first|(cases hy;done)|rfl|skip
  case ptr b=>cases b<;>first|(cases hy;done)|(exact absurd (fM (show pr 4 1=pr 4 2 from h)).2 iH)
  case map b=>cases b<;>first|(cases hy;done)|(exact absurd (fM (show pr 4 1=pr 4 3 from h)).2 iH)
  case nilFunc=>exact absurd (fM (show pr 4 1=pr 4 0 from h)).2 iH
  all_goals exact absurd (fM (show pr 4 1=pr _ _ from h)).1 iH
 case ptr a=>
  cases a<;>first|(cases hx;done)|skip
  cases y<;>first|(cases hy;done)|skip
  case ptr b=>cases b<;>first|(cases hy;done)|rfl
  case map b=>cases b<;>first|(cases hy;done)|(exact absurd (fM (show pr 4 2=pr 4 3 from h)).2 iH)
  case nilIface=>exact absurd (fM (show pr 4 2=pr 4 1 from h)).2 iH
  case nilFunc=>exact absurd (fM (show pr 4 2=pr 4 0 from h)).2 iH
  all_goals exact absurd (fM (show pr 4 2=pr _ _ from h)).1 iH
 case map a=>
  cases a<;>first|(cases hx;done)|skip
  cases y<;>first|(cases hy;done)|skip
  case ptr b=>cases b<;>first|(cases hy;done)|(exact absurd (fM (show pr 4 3=pr 4 2 from h)).2 iH)
  case map b=>cases b<;>first|(cases hy;done)|rfl
  case nilIface=>exact absurd (fM (show pr 4 3=pr 4 1 from h)).2 iH
  case nilFunc=>exact absurd (fM (show pr 4 3=pr 4 0 from h)).2 iH
  all_goals exact absurd (fM (show pr 4 3=pr _ _ from h)).1 iH
theorem TC:∀{l m:List AV},l.all AV.gi=true->m.all AV.gi=true->l.map yu=m.map yu->l=m
 |[],[],_,_,_=>rfl
 |[],_::_,_,_,h=>by cases h
 |_::_,[],_,_,h=>by cases h
 |x::l,y::m,hx,hy,h=>by obtain⟨a1,a2⟩:=and_true.1 (show(x.gi&&l.all AV.gi)=true from hx);obtain⟨b1,b2⟩:=and_true.1 (show(y.gi&&m.all AV.gi)=true from hy);simp only[List.map_cons,List.cons.injEq] at h;rw[acx a1 b1 h.1,TC a2 b2 h.2]
noncomputable section
def nm(cs:List AV):Nat:=top+2+qS (cs.map yu)
open Classical in
def FU(n:Nat):Option<|List AV:=if h:∃cs:List AV,cs.all AV.gi=true/\nm cs=n then some h.choose else none
def aD(enc:α->List AV)(l:List α):AV:=.ab (nm (l.map enc).flatten) 0 l.length
end
theorem cV(cs:List AV):top<=nm cs:=Nat.le_trans (Nat.le_add_right top 2)<|Nat.le_add_right _ _
theorem Ag(cs:List AV):nm cs≠top/\nm cs≠top+1:=by unfold nm;omega
theorem Cn(h:cs.all AV.gi=true):FU (nm cs)=some cs:=by have hx:∃ds:List AV,ds.all AV.gi=true/\nm ds=nm cs:=⟨cs,h,rfl⟩;unfold FU;rw[dif_pos hx];obtain⟨h1,h2⟩:=hx.choose_spec;exact congrArg some<|TC h1 h<|Ob (by have h3:top+2+qS (hx.choose.map yu)=top+2+qS (cs.map yu):=h2;omega)
theorem JE(h:x.gi=true):x.cj=true:=by cases x<;>first|rfl|(cases h;done)
theorem D3(h:x.gi=true):x.cq=true:=by
 cases x<;>first|rfl|(cases h;done)|skip
 ·rename_i a;cases a with
  |none=>rfl
  |some _=>cases h
 ·exact h
 ·rename_i a;cases a with
  |none=>rfl
  |some _=>cases h
theorem agN(h:cs.all AV.gi=true){off:Nat}(hk:off+k<=cs.length):cx FU (nm cs) off k=some ((cs.drop off).take k):=by unfold cx;rw[Cn h];simp only[(aL.2 hk:Nat.ble (off+k) cs.length=true)]
structure mh {α:Type} (K:Nat) (enc:α->List AV):Prop where
 len:∀a,(enc a).length=K
 gi:∀a,(enc a).all AV.gi=true
theorem mh.all(h:mh K enc):∀l:List α,(l.map enc).flatten.all AV.gi=true
 |[]=>rfl
 |a::l=>by rw[List.map_cons,List.flatten_cons,List.all_append,h.gi a,mh.all h l];rfl
theorem mh.length(h:mh K enc)(l:List α):(l.map enc).flatten.length=l.length*K:=by
 have:=tJ (K:=K) (l:=l.map enc) fun c hc=>by obtain⟨a,_,rfl⟩:=List.mem_map.1 hc;exact h.len a
 rw[this,List.length_map]
theorem yc(h:mh K enc){l:List α}{i:Nat}{a:α}(ha:l[i]? =some a)(j k:Nat)(hk:j+k<=K):cx FU (nm (l.map enc).flatten) (i*K+j) k=some (((enc a).drop j).take k):=by
 have hi:=(List.getElem?_eq_some_iff.1 ha).1;have hle:i*K+K<=(l.map enc).flatten.length:=by rw[h.length];have:=Nat.mul_le_mul_right K (show i+1<=l.length from hi);rw[Nat.add_mul,Nat.one_mul] at this;exact this
 rw[agN (h.all l) ak];have hf:=ND (l:=l.map enc) (K:=K) (i:=i) (c:=enc a) (fun c hc=>by obtain⟨a,_,rfl⟩:=List.mem_map.1 hc;exact h.len a) (by rw[List.getElem?_map,ha];rfl);have hd:((l.map enc).flatten.drop<|i*K+j).take k=((((l.map enc).flatten.drop<|i*K).take K).drop j).take k:=by rw[List.drop_take,List.take_take,List.drop_drop,Nat.min_eq_left ak]
 rw[hd,hf]
def gm(U:Nat)(ρ:aw):aw:=fun k=>if k<U then ρ k else gq ρ k
def sd(B:aI)(ρ:aw)(w:World):aI:=⟨fun k=>w.heap.size<=k,B.F,fun k=>ρ k≠none,B.inv,B.dV,B.mono⟩
theorem tU(ht:U<=top)(hk:top<=k):gm U ρ k=ρ k:=by unfold gm gq;rw[if_neg ak,if_pos hk]
noncomputable section
def p6(U:Nat)(ns:List Nat)(h0:Tr ae)(val:List AV->Option AV):aO->List AV->M AV:=fun _ args=>aF (args.all AV.hi) <| (fe U h0 ns).bind fun _=>aC (val args) fun v=>aF v.hi <| M.pure v
end
theorem SF.p6(U:Nat)(ns:List Nat)(h0:Tr ae)(val:List AV->Option AV)(SG:aO)(args:List AV):SF<|p6 U ns h0 val SG args:=SF.aF fun _=>SF.bind (SF.fe U h0 ns) fun _=>SF.aC fun _ _=>SF.aF fun _=>SF.pure _
theorem Jn{o p:ae}(h:oX U o p=true):o.m7=true:=by unfold oX at h;split at h<;>first|rfl|cases h
theorem ES(ht:U<=top)(r:Rel B ρ h w)(dG:∀n o,n<top->h0.get n=some o->n∈ns)(ep:∀n∈ns,n<U)(a3:∀n∈ns,∃o p,h.get n=some o/\h0.get n=some p/\oX U o p=true):Rel (sd B ρ w) (gm U ρ) h0 w:=by
 have cH:∀n o,n<top->h0.get n=some o->o.m7=true/\∃b N o',gm U ρ n=some (b,N)/\w.heap[b]? =some o'/\OR (gm U ρ) N o o':=by
  intro n o hn ho;have iz:=dG n o hn ho;obtain⟨p1,p2,c2,c3,c4⟩:=a3 n iz;rw[ho] at c3;cases c3;obtain⟨b,N,o',i1,i2,i3,_⟩:=r.is n p1 hn c2;obtain⟨j1,j2⟩:=aby c4 i3;refine⟨j1,b,N,o',?_,i2,j2.mono fun k x e=>?_⟩
  ·unfold gm;rw[if_pos<|ep n iz];exact i1
  ·have e:(if k<U then ρ k else none)=some x:=e;unfold gm;split at e
   ·rename_i q;rw[if_pos q];exact e
   ·cases e
 refine⟨fun n o hn ho=>?_,fun n m o p b N M hn hm h1 h2 da _ _=>?_,fun n m es ex left cur hn ho=>?_,fun _ hk=>hk,fun i j m es ex left cur hJ iW iK iL hi _ h1 _=>?_,fun n b sh e=>?_,uR.no (fun n k v hn hg=>by have:=(cH n _ hn hg).1;cases this) ⟨r.tk.1.1,fun n o hn ho _=>by have iz:=dG n o hn ho;obtain⟨p1,p2,c2,c3,c4⟩:=a3 n iz;rw[ho] at c3;cases c3;obtain⟨b,N,e1,e2⟩:=r.tk.1.2 n p1 hn c2<|Jn c4;exact⟨b,N,by unfold gm;rw[if_pos<|ep n iz];exact e1,e2⟩⟩⟩
 ·obtain⟨h1,b,N,o',h2,h3,h4⟩:=cH n o hn ho;have h1:=ae.kf h1;exact⟨b,N,o',h2,h3,h4,fun q=>by rw[h1] at q;cases q⟩
 ·have e1:=ae.kf (cH n o hn h1).1;have e2:=ae.kf (cH m p hm h2).1;rw[e1,e2] at da;rcases da with q|q<;>cases q
 ·have:=(cH n _ hn ho).1;cases this
 ·have:=(cH i _ hi h1).1;cases this
 ·rw[tU ht<|gg _ _ _] at e;obtain⟨_,l,c,e',fr,g1,g2,g3,g4⟩:=r.fz n b sh e;refine⟨.inl e,l,c,e',fr,g1,g2,fun m o N hm ho hr _=>?_,fun i x hx=>?_⟩
  ·rw[ae.kf (cH m o hm ho).1] at hr;cases hr
  ·obtain⟨v,k1,k2,k3⟩:=g4 i x hx;refine⟨v,k1,VR.mono (fun k y q=>?_) _ _ k2,k3⟩;unfold gq at q ⊢;split at q
   ·rename_i hk;rw[if_pos hk,tU ht hk];exact q
   ·cases q
def cK(ρ σ:aw):aw:=fun k=>if top<=k then σ k else ρ k
theorem Kz{σ:aw}{h4:Tr ae}{w':World}{a:Nat}(ht:U<=top)(r:Rel B ρ h w)(q3:Rel (sd B ρ w) σ h4 w')(q4:cP (sd B ρ w) w w')(hle:(gm U ρ).le σ):
 Ext a a ρ (cK ρ σ)/\iM σ (cK ρ σ)/\Rel B (cK ρ σ) h w'/\cP B w w':=by
 have hold:∀k x,top<=k->ρ k=some x->σ k=some x:=fun k x hk e=>hle k x (by rw[tU ht hk];exact e);have hl:ρ.le<|cK ρ σ:=by
  intro k x e;unfold cK;by_cases hk:top<=k
  ·rw[if_pos hk];exact hold k x hk e
  ·rw[if_neg hk];exact e
 have cZ:∀k,k<top->cK ρ σ k=ρ k:=fun k hk=>by unfold cK;rw[if_neg ak]
 have CB:cP B w w':=⟨q4.os,q4.tape,q4.output,q4.size,fun k hk _=>q4.block k hk (by show ¬(w.heap.size<=k);omega)⟩;have Lt:∀b,b<w.heap.size->w'.heap[b]? =w.heap[b]? :=fun b hb=>q4.block b hb (by show ¬(w.heap.size<=b);omega);refine⟨⟨hl,fun k hk _=>cZ k hk⟩,fun k x hk e=>by unfold cK;rw[if_pos hk];exact e,⟨?_,?_,?_,fun k hk=>r.size k<|Nat.le_trans q4.size hk,r.lone,?_,r.tk.of hl (fun _ _ _ e _=>e) q4.size (fun b hb _=>Lt b hb) (fun b1 _ hn m o N hm ho hr hb=>hn m o N hm ho hr (by rw[cZ m hm] at hb;exact hb)) (fun j x sh hx _ e=>by
  unfold cK;rw[if_pos<|gg _ _ _];refine Classical.byContradiction fun q=>?_;rcases(q3.fz j x sh q).1 with z|z
  ·exact z e
  ·exact absurd hx (by have z:w.heap.size<=x:=z;omega))⟩,CB⟩
 ·intro n o hn ho;obtain⟨b,N,o',h1,h2,h3,h5⟩:=r.is n o hn ho;exact⟨b,N,o',(cZ n hn).trans h1,(Lt b<|gV h2).trans h2,h3.mono hl,h5⟩
 ·intro n m o p b N M hn hm h1 h2 da e1 e2;rw[cZ n hn] at e1;rw[cZ m hm] at e2;exact r.one n m o p b N M hn hm h1 h2 da e1 e2
 ·intro n m es ex left cur hn ho;obtain⟨hm,fx,b,N,bm,M,l,bg,seen,h1,h2,h3,h5,h6⟩:=r.iter n m es ex left cur hn ho;have u:nu ρ w' n m es ex left cur:=⟨b,N,bm,M,l,bg,seen,h1,h2,(Lt b<|gV h3).trans h3,(Lt bm<|gV h5).trans h5,h6⟩;exact⟨hm,fx,u.mono hl⟩
 ·intro n b sh e;have e:σ (hn n b sh)≠none:=by unfold cK at e;rw[if_pos<|gg _ _ _] at e;exact e
  obtain⟨g0,l,c,e',fr,g1,g2,_,g4⟩:=q3.fz n b sh e;have ga:(gq σ).le<|gq<|cK ρ σ:=by
   intro k x q;unfold gq at q ⊢;split at q
   ·rename_i hk;rw[if_pos hk];unfold cK;rw[if_pos hk];exact q
   ·cases q
  have mY:∀i x,l[i]? =some x->∃v,c[sh+i]? =some v/\VR (gq<|cK ρ σ) x v/\x.cj=true:=fun i x hx=>by obtain⟨v,k1,k2,k3⟩:=g4 i x hx;exact⟨v,k1,VR.mono ga _ _ k2,k3⟩
  by_cases q:ρ (hn n b sh)≠none
  ·obtain⟨z0,l',c',e2,ko,z1,z2,z3,_⟩:=r.fz n b sh q;refine⟨z0,l,c,e',fr,g1,g2,fun m o N hm ho hr hb=>?_,mY⟩;rw[cZ m hm] at hb;exact z3 m o N hm ho hr hb
  ·have hb:w.heap.size<=b:=g0.resolve_left q;refine⟨.inr<|r.size b hb,l,c,e',fr,g1,g2,fun m o N hm ho hr iO=>?_,mY⟩;rw[cZ m hm] at iO;obtain⟨b1,N1,o1,h1,h2,_⟩:=r.is m o hm ho;rw[iO] at h1;cases h1;have:=gV h2;omega
noncomputable section
def bp(val:List AV->Option AV)(args:List AV):Option AV:=match args.all AV.hi with
 |true=>(val args).bind fun v=>match v.hi with
  |true=>some v
  |false=>none
 |false=>none
end
theorem fu{val:List AV->Option AV}(h:val args=some v)(ha:args.all AV.hi=true)(hv:v.hi=true):bp val args=some v:=by unfold bp;rw[ha,h];simp only[Option.bind_some,hv]
theorem adH{val:List AV->Option AV}(h:bp val args=some v):val args=some v/\args.all AV.hi=true/\v.hi=true:=by
 unfold bp at h;split at h
 ·rename_i ha;cases e:val args with
  |none=>rw[e] at h;cases h
  |some u=>
   rw[e] at h;simp only[Option.bind_some] at h;split at h
   ·rename_i hu;injection h with h;subst h;exact⟨rfl,ha,hu⟩
   ·cases h
 ·cases h
theorem acy{val:List AV->Option AV}{SG:aO}{s:AS}(h:bp val args=some v)(hc:qk U h0 ns s=true):p6 U ns h0 val SG args s= .ok v (dL U h0 ns s):=by obtain⟨h1,h2,h3⟩:=adH h;unfold p6;rw[h2,dA,M.bO<|vM hc,h1,bY,h3,dA];rfl
end Go.Rn
