import Derived.Test.YtaooegdfpnfncaaGreatDoorRnGB
import Derived.CheckFast
import Derived.Lib.ItoaNum
import Derived.LaidMore
import Derived.LaidHandle
import Derived.Lib.LaidTab
import Derived.Sort.Grow
import Derived.Deep.Draws
set_option maxRecDepth 100000
set_option maxHeartbeats 8000000
set_option linter.unusedSimpArgs false
set_option linter.unusedVariables false
namespace Go.Rn
open Go.RowKit
section
variable {r:Nat->Nat}
theorem bz.int(k:IntKind)(n:Int):bz r (.int k n)<|.int k n:=fun _ _ h=>h
theorem bz.bool(b:Bool):bz r (.bool b)<|.bool b:=fun _ _ h=>h
theorem bz.adz:bz r (.slice none 0<|.known 0)<|.slice none 0<|.known 0:=fun _ _ h=>h
theorem bz.ptr{n m o:Nat}(e:r m=n):bz r (.ptr<|some (n,o))<|.ptr<|some (m,o):=by intro ρ v h;simp only[VR] at h ⊢;rw[e];exact h
theorem bz.map{n m:Nat}(e:r m=n):bz r (.map<|some n)<|.map<|some m:=by intro ρ v h;simp only[VR] at h ⊢;rw[e];exact h
theorem bz.slice{n m o len:Nat}{c:cM}(e:r m=n):bz r (.slice (some (n,o)) len c)<|.slice (some (m,o)) len c:=by intro ρ v h;cases c<;>simp only[VR] at h ⊢ <;>rw[e]<;>exact h
theorem bz.ab{n o len:Nat}(e:r n=n)(hr:∀k,top<=k->r k=k):bz r (.ab n o len)<|.ab n o len:=by intro ρ v h;simp only[VR] at h ⊢;refine h.imp id fun⟨b,sh,c,h1,h2⟩=>⟨b,sh,c,h1.imp (fun q=>⟨q.1,(congrArg ρ e).trans q.2⟩) fun q=>⟨q.1,fun z=>q.2<|(congrArg ρ<|hr _<|gg _ _ _).symm.trans z⟩,h2⟩
def AV.flat:AV->Bool
 | .bool _| .int _ _| .str _| .LI _=>true
 | .ptr none| .map none| .nilFunc| .nilIface=>true
 | .slice none _ (.known _)=>true
 |_=>false
theorem bz.flat{x:AV}(h:x.flat=true):bz r x x:=by
 intro ρ v k;cases x<;>first|exact k|skip
 case slice a len cap=>cases a with
  |some _=>cases h
  |none=>cases cap with
   |known c=>simp only[VR] at k ⊢;exact k
   |ar _ _=>cases h
   |lost=>cases h
 all_goals first|(cases h;done)|skip
 all_goals
  rename_i a;cases a with
  |none=>exact k
  |some _=>cases h
def Lp(r:Nat->Nat):List AV->List AV->Prop
 |[],[]=>True
 |x::l,y::m=>bz r x y/\Lp r l m
 |_,_=>False
def ah1(r:Nat->Nat)(h:Tr ae):List (Nat×ae)->Prop
 |[]=>True
 |p::l=>(p.2.plain=true/\∃x,h.get (r p.1)=some x/\(x.du=p.2.du/\x.mW=p.2.mW)/\sk r x p.2)/\ah1 r h l
def bO:List (Nat×ae)->List (Nat×Option ae)
 |[]=>[]
 |p::l=>(p.1,some p.2)::bO l
theorem N5:∀{l:List<|Nat×ae} {i:Nat} {y:ae},(i,some y)∈bO l->(i,y)∈l
 |p::l,i,y,h=>by
  rcases List.mem_cons.1 h with h|h
  ·injection h with h1 h2
   injection h2 with h2
   have:p=(i,y):=by rw[h1,h2]
   rw[←this];exact List.mem_cons_self
  ·exact List.mem_cons_of_mem _<|N5 h
variable {P:Program} {B:aJ} {Q:Tr AV->List Nat->Option Code->AS->Prop} {s:AS} {t:Tr AV} {nt:Nat}
end
end Go.Rn
namespace Go.Rn
end Go.Rn
namespace Go.Rn
open Go.RowKit
noncomputable section
end
section
variable {P:Program} {s s1:AS} {SI:aO} {t:Tr AV}
end
end Go.Rn
namespace Go.Rn
open Go.RowKit
noncomputable section
def Fin(P:Program)(rs:List ResultVar)(R:AV->AS->Prop):Tr AV->List Nat->Option Code->AS->Prop:=fun t d j s=>∃x s3,finish P rs ⟨0,t,0,[],d,none⟩ j s= .ok x s3/\R x s3
end
section
variable {P:Program} {B:aJ} {ρ:aw} {w:World} {s s1:AS} {SI:aO}
theorem Gu(rs:List ResultVar)(fr:AF)(j:Option Code):finish P rs fr j=finish P rs ⟨0,fr.tmps,0,[],fr.defers,none⟩ j:=rfl
theorem av.calls(hP:bB P){g:FuncId}{fn:Func}{body:Code}{args:List AV}{vs:Array Value}{R:AV->AS->Prop}(ch:P.funcs[g]? =some fn)(cw:fn.body=some body)(pd:max fn.ntmps args.length<=top)(H:av P B s.nx (Fin P fn.results.toList R) ⟨g,dZ args,max fn.ntmps args.length,[.code body],[],none⟩ s)(fi:bE s)(r:Rel B ρ s.h w)(hg:gk ρ)(hf:∀k,s.nx<=k->k<top->ρ k=none)(hv:az ρ args vs.toList):
 Calls P g vs w fun e w'=>∃v x s3,e= .returned v/\R x s3/\s.nx<=s3.nx/\bE s3/\kg B ρ s s3 w x v w':=by
 intro cs;let b:Frame:={(default:Frame) with fn:=g,kind:=.normal,roundOf:=none};let a:Act:={tmps:=vs++Array.replicate (fn.ntmps - vs.size) undef,defers:=[]};have xZ:Frame.enter P g vs .normal=b.atR a [.code body]:=by simp[Frame.enter,Frame.atR,ch,cw,b,a]
 have bG:Fr ρ ⟨g,dZ args,max fn.ntmps args.length,[.code body],[],none⟩ b a:=⟨rfl,rfl,trivial,rfl,.cons (hP.code g fn body ch cw) .nil⟩;have ay:At B ρ s (max fn.ntmps args.length) (dZ args) w a:=⟨Je hv _ pd,r,hg,pd,fi⟩;obtain⟨fr,j,s2,σ,a',w',⟨x,s3,qe,hR⟩,en,e0,IG,e1,e2,e3,e4,e5,e6,e7,e8⟩:=H ρ w b a cs bG ay hf;have Qn:finish P fn.results.toList fr j s2= .ok x s3:=by rw[Gu];exact qe
 have AZ:bE s2:=e2.cG;have ajX:Ext s.nx s2.nx ρ σ:=by
  refine⟨fun k y hk=>?_,fun k gw hk=>?_⟩
  ·by_cases qt:k<top
   ·by_cases q:s.nx<=k
    ·rw[hf k q qt] at hk;cases hk
    ·rw[e0 k ak qt];exact hk
   ·exact IG k y ak hk
  ·by_cases q:k<s.nx
   ·exact e0 k q gw
   ·rw[e1 k ak gw,hf k ak gw]
 obtain⟨hj,u2,s4,rs,h7,h9,hx⟩:=ND Qn;have pw:bE s4:=(SH.rP _).cG AZ h7;have qv:Leaves j fr.todo:=e7;obtain⟨d1,d2,w2,d3,d4,d5⟩:=Jd (P:=P) (fr:=b) (cs:=cs) AZ e2.rel e3 h7;obtain⟨f1,f2,us,f3,f4⟩:=Ja (P:=P) (w:=w2) e2.tr pw d3 h9;have ju:bE s3:=(SH.tI P fr.tmps _).cG pw h9;have HU:Steps P (lone (b.atR a' fr.todo) cs w')<|lone {b.atR a' fr.todo with mode:=.returning} cs w':=by
  rcases hj with rfl|rfl
  ·have e:fr.todo=[]:=qv;rw[e];exact .one<|stepR_end rfl
  ·obtain⟨k,e⟩:=qv;rw[e];exact .one<|stepR_ret rfl
 have yn:=d5 {b.atR a' fr.todo with mode:=.returning} cs jI rfl;have kz:(results fn a'.tmps).run P w2= .ok (oJ us) w2:=by
  unfold results;rw[Array.mapM_eq_mapM_toList];simp only[Sem.run_bind,map_eq_pure_bind,Sem.run_pure];refine Eq.trans (congrArg (fun r:Result (List Value)=>(r.andThen fun a w'=>Result.ok a.toArray w').andThen fun a w'=>Result.ok (if h:a.size=1 then a[0] else Value.tuple a) w') f3) ?_;have:∀l:List Value,(Result.ok (if h:l.toArray.size=1 then l.toArray[0] else Value.tuple l.toArray) w2:Result Value)= .ok (oJ l) w2:=by
   intro l
   match l with
   |[]=>rfl
   |[v]=>rfl
   |v::v2::l=>simp[oJ]
  exact this us
 have Zh:s3.nx=s2.nx:=by rw[f2,d1]
 have hle:s.nx<=s3.nx:=by rw[Zh];exact en
 refine⟨.returned<|oJ us,w2,{b.atR a' fr.todo with mode:=.returning,defers:=[]},⟨_,x,s3,rfl,hR,hle,ju,?_⟩,?_,rfl,?_⟩
 ·exact⟨σ,by rw[Zh];exact ajX,by rw[hx];exact NX f4,by rw[f1];exact d3,e4.trans d4⟩
 ·rw[xZ];exact Steps.trans e8<|Steps.trans HU yn
 ·exact⟨rfl,rfl,rfl,fn,ch,kz⟩
end
end Go.Rn
namespace Go.Rn
variable {P:Program} {SI:aO} {nt:Nat} {ops:Array Oper} {t t1:Tr AV}
theorem tC{P:Program}{w:World}{f:FuncId}{fn:Func}{body:Code}{vs:Array Value}(ch:P.funcs[f]? =some fn)(cw:fn.body=some body)(dD:(fn.name == "runtime.NumGoroutine")=false):(callFunc f vs).run P w= .ok (.enter f vs) w:=by
 have Hz:(program).run P w= .ok P w:=rfl;have hn:fn.name≠ "runtime.NumGoroutine" :=by simpa using dD
 simp only[callFunc,Sem.run_bind,Hz,Result.andThen_ok,ch,dD,cw];simp
theorem tD{K:Nat}:∀{l:List<|List AV},(∀c∈l,c.length=K)->l.flatten.length=l.length*K
 |[],_=>by simp
 |c::l,h=>by rw[List.flatten_cons,List.length_append,h c List.mem_cons_self,tD fun c' h'=>h c'<|List.mem_cons_of_mem _ h',List.length_cons,Nat.add_mul,Nat.one_mul];omega
theorem agz{s:AS}{ty yt:TypeId}{x y:Operand}{k:IntKind}{a b c:Int}(hx:aK t x=some (.int k a))(hy:aK t y=some (.int k b))(h0:b≠0)(h:a.tmod b=c):(dO P<|.binOp .rem ty x y yt).val SI t s= .ok (.int k c) s:=aeR hx hy rfl rfl (by subst h;simp only[EG,decide_eq_false h0])
end Go.Rn
namespace Go.Rn
open Go.RowKit
section
variable {P:Program} {SI:aO} {nt:Nat} {ops:Array Oper} {t t1:Tr AV}
end
noncomputable section
end
end Go.Rn
namespace Go.Rn
open Go.RowKit
variable {t1:Tr AV} {g:Option<|Nat×Bool} {d:Option Tmp} {v:AV} {id:Nat} {c:Code}
noncomputable section
instance:Inhabited<|Tr AV:=⟨.nil⟩
def Chunk(P:Program)(SI:aO)(G:AF->AS->Prop):Prop:=∀(k:Nat) (fr aQ:AF) (s s1:AS),eg P SI k fr s= .ok (.go aQ) s1->G aQ s1->G fr s
def Ev(P:Program)(SI:aO)(R:AF->Option Code->AS->Prop)(fr:AF)(s:AS):Prop:=∃k aQ j s1,eg P SI k fr s= .ok (.leave aQ j) s1/\R aQ j s1
def Ax(P:Program)(B:aJ)(U:Nat)(Q:Tr AV->List Nat->Option Code->AS->Prop)(fr:AF)(s:AS):Prop:=U<=s.nx->av P B U Q fr s
def yF(P:Program)(SI:aO)(G:AF->AS->Prop)(f nt:Nat)(K:List Item)(ops:Array Oper)(i:Nat)(t:Tr AV)(s:AS):Prop:=∃t1 s1,pS P SI nt ops i (ops.size - i) t s= .ok t1 s1/\G ⟨f,t1,nt,K,[],none⟩ s1
def rh(P:Program)(SI:aO)(G:AF->AS->Prop)(f nt:Nat)(K:List Item)(ops:Array Oper)(acc:List dC)(i:Nat)(t:Tr AV)(s:AS):Prop:=∃t1 ms s1,uB P SI nt ops i (ops.size - i) t s= .ok (t1,ms) s1/\qL (Region.before ops) (acc++ms) (acc++ms)=true/\G ⟨f,t1,nt,K,[],none⟩ s1
def HW:Tr ae->List (Nat×Option ae)->Tr ae
 |t,[]=>t
 |t,p::l=>HW (t.put p.1 p.2) l
def Kv(s:AS):AS:=⟨s.h,s.nx,s.nx,[],[]⟩
def EO(s s1:AS):AS:=⟨s1.h,s1.nx,s.mark,below s.mark s1.rd++s.rd,below s.mark s1.wr++s.wr⟩
def LX(i:Nat)(s s1:AS):dC:=⟨i,below s.nx s1.rd,below s.nx s1.wr,s.nx,s1.nx⟩
end
section
variable {P:Program} {B:aJ} {U:Nat} {Q:Tr AV->List Nat->Option Code->AS->Prop} {s s1:AS} {SI:aO} {t:Tr AV} {ops:Array Oper} {f nt i:Nat} {K:List Item} {G:AF->AS->Prop} {acc:List dC}
theorem Chunk.FZ(bT:P.follows .mixedOrders=true)(hc:fR P B SI)(hl:∀t a,SH<|SI t a):Chunk P SI<|Ax P B U Q:=by intro k fr aQ s s1 h H h0 ρ w b a cs bG ay hf;have le:=(SH.eg P hl k fr).le ay.cG h;exact av.chunk bT hc hl h h0 (H<|Nat.le_trans h0 le) ρ w b a cs bG ay hf
theorem Uf:∀{k m:Nat} {fr aQ:AF} {s s1:AS},eg P SI k fr s= .ok (.go aQ) s1->eg P SI (k+m) fr s=eg P SI m aQ s1
 |0,m,fr,aQ,s,s1,h=>by cases h;rw[Nat.zero_add]
 |k+1,m,fr,aQ,s,s1,h=>by
  obtain⟨y,s2,h1,h2⟩:=M.aR (show((jg P SI fr).bind fun x=> @br.rec (fun _=>M br) (eg P SI k) (fun fr j=>M.pure<|.leave fr j) x) s= .ok _ s1 from h);cases y with
  |go qw=>rw[show k+1+m=(k+m)+1 by omega,BK h1];exact Uf h2
  |leave qw j'=>cases h2
theorem Chunk.ev{R:AF->Option Code->AS->Prop}:Chunk P SI<|Ev P SI R:=by intro k fr aQ s s1 h ⟨m,kl,j,s2,h1,h2⟩;exact⟨k+m,kl,j,s2,by rw[Uf h];exact h1,h2⟩
theorem Chunk.AX(hG:Chunk P SI G)(EN:c= .region id (opsOf c) false)(H:yF P SI G f nt K (opsOf c) 0 t s):G ⟨f,t,nt,.code c::K,[],none⟩ s:=by
 obtain⟨t1,s1,h,H⟩:=H;refine hG 1 _ _ _ s1 (BK ?_) H;have ht:((opsOf c).toList.drop 0).take ((opsOf c).size - 0)=(opsOf c).toList:=by rw[List.drop_zero,Nat.sub_zero, ←Array.length_toList,List.take_length]
 unfold pS at h;rw[ht] at h;rw[EN];show((jl P SI nt (opsOf c) (opsOf c).toList t).bind fun t=>M.pure<|br.go ⟨f,t,nt,K,[],none⟩) s=_;rw[M.bN h];rfl
theorem Chunk.ajY(hG:Chunk P SI G)(EN:c= .region id (opsOf c) true)(H:rh P SI G f nt K (opsOf c) [] 0 t s):G ⟨f,t,nt,.code c::K,[],none⟩ s:=by
 obtain⟨t1,ms,s1,h,hm,H⟩:=H;rw[List.nil_append] at hm;refine hG 1 _ _ _ s1 (BK ?_) H;have ht:((opsOf c).toList.drop 0).take ((opsOf c).size - 0)=(opsOf c).toList:=by rw[List.drop_zero,Nat.sub_zero, ←Array.length_toList,List.take_length]
 unfold uB at h;rw[ht] at h;rw[EN];show((qD P SI nt (opsOf c) t).bind fun t=>M.pure<|br.go ⟨f,t,nt,K,[],none⟩) s=_;have:qD P SI nt (opsOf c) t s= .ok t1 s1:=by unfold qD;rw[M.bN h];show aF (qL (Region.before<|opsOf c) ms ms) (M.pure t1) s1=_;rw[hm,dz];rfl
 rw[M.bN this];rfl
theorem yF.done(h:Nat.ble ops.size i=true)(H:G ⟨f,t,nt,K,[],none⟩ s):yF P SI G f nt K ops i t s:=by refine⟨t,s,?_,H⟩;rw[show ops.size - i=0 by have:=aL.1 h;omega];unfold pS;rw[List.take_zero];rfl
theorem rh.done(h:(Nat.ble ops.size i&&qL (Region.before ops) acc acc)=true)(H:G ⟨f,t,nt,K,[],none⟩ s):rh P SI G f nt K ops acc i t s:=by obtain⟨h1,h2⟩:=and_true.1 h;refine⟨t,[],s,?_,by rw[List.append_nil];exact h2,H⟩;rw[show ops.size - i=0 by have:=aL.1 h1;omega];unfold uB;rw[List.take_zero];rfl
theorem yF.step(hn:Nat.blt i ops.size=true)(h:pS P SI nt ops i 1 t s= .ok t1 s1)(H:yF P SI G f nt K ops (i+1) t1 s1):yF P SI G f nt K ops i t s:=by obtain⟨t2,s2,h1,h2⟩:=H;have cF:=(blt_eq _ _).mp hn;refine⟨t2,s2,?_,h2⟩;rw[show ops.size - i=1+(ops.size - (i+1)) by omega];exact TA h h1
theorem rh.step{ms:List dC}(hn:Nat.blt i ops.size=true)(h:uB P SI nt ops i 1 t s= .ok (t1,ms) s1)(H:rh P SI G f nt K ops (acc++ms) (i+1) t1 s1):rh P SI G f nt K ops acc i t s:=by obtain⟨t2,ms2,s2,h1,h2,h3⟩:=H;have cF:=(blt_eq _ _).mp hn;refine⟨t2,_,s2,?_,by rw[←List.append_assoc];exact h2,h3⟩;rw[show ops.size - i=1+(ops.size - (i+1)) by omega];exact UU rfl ak h h1
theorem VO{op:Op}(h:yD ops i=some (op,d,g)):Nat.blt i ops.size=true:=by obtain⟨o,e,_⟩:=JN h;rw[blt_eq];exact(Array.getElem?_eq_some_iff.1 e).1
noncomputable def Lq(ops:Array Oper)(g:Option<|Nat×Bool)(t:Tr AV):Bool:=
 match g with
 |none=>true
 |some g=>tU ops t g.1&&qG ops g t
theorem agA{op:Op}(ho:yD ops i=some (op,d,g))(hw:Lq ops g t=true)(h:(dO P op).val SI t s= .ok v s1)(hp:jk nt t d v=some t1):pS P SI nt ops i 1 t s= .ok t1 s1:=by
 cases g with
 |none=>exact cN ho h hp
 |some g=>obtain⟨h1,h2⟩:=and_true.1 (show(tU ops t g.1&&qG ops g t)=true from hw);exact ajW ho h1 h2 h hp
theorem aeT{op:Op}(ho:yD ops i=some (op,d,g))(hw:Lq ops g t=true)(h:(dO P op).val SI t (Kv s)= .ok v s1)(hp:jk nt t d v=some t1):uB P SI nt ops i 1 t s= .ok (t1,[LX i s s1]) (EO s s1):=by
 obtain⟨o,e,rfl,rfl,e3⟩:=JN ho;unfold uB;have hl:(ops.toList.drop i).take 1=[o]:=by
  have h1:ops.toList[i]? =some o:=by rw[Array.getElem?_toList];exact e
  obtain⟨hi,e⟩:=List.getElem?_eq_some_iff.1 h1;rw[List.drop_eq_getElem_cons hi,e];rfl
 rw[hl];have ha:gP P SI nt ops o t (Kv s)= .ok t1 s1:=by
  unfold gP Ci;rw[e3];cases g with
  |none=>show sI (dO P o.op) o.dst SI nt t _=_;unfold sI;rw[M.bN h,hp];rfl
  |some g=>obtain⟨h1,h2⟩:=and_true.1 (show(tU ops t g.1&&qG ops g t)=true from hw);show uq ops g (dO P o.op) o.dst SI nt t _=_;unfold uq;rw[h1,h2,dz];show((dO P o.op).val SI t).bind (fun v=>lift<|jk nt t o.dst v) _=_;rw[M.bN h,hp];rfl
 have hal:alone i (gP P SI nt ops o t) s= .ok (t1,LX i s s1) (EO s s1):=by obtain⟨hh,nx,mark,rd,wr⟩:=s;obtain⟨yS,qp,Qj,gu,oh⟩:=s1;unfold alone;simp only[zD];show(@R.rec _ (fun _=>R<|Tr AV×dC) .bad (fun a s1=>_)<|gP P SI nt ops o t<|Kv ⟨hh,nx,mark,rd,wr⟩)=_;rw[ha];rfl
 show((alone i<|gP P SI nt ops o t).bind fun x=>(nu P SI nt ops [] (i+1) x.1).bind fun y=>M.pure (y.1,x.2::y.2)) s=_;rw[M.bN hal];rfl
def QQ:BinOp->Int->Int->Option Bool
 | .lss,a,b=>some<|decide<|a<b
 | .leq,a,b=>some<|decide<|a<=b
 | .gtr,a,b=>some<|decide<|a>b
 | .geq,a,b=>some<|decide<|a>=b
 | .eql,a,b=>some<|a == b
 | .neq,a,b=>some<|!(a == b)
 |_,_,_=>none
theorem agB{op:BinOp}{ty yt:TypeId}{x y:Operand}{k:IntKind}{a b:Int}{r:Bool}(hx:aK t x=some (.int k a))(hy:aK t y=some (.int k b))(h:QQ op a b=some r):(dO P<|.binOp op ty x y yt).val SI t s= .ok (.bool r) s:=by cases op<;>simp only[QQ,Option.some.injEq,reduceCtorEq] at h<;>exact aeQ hx hy rfl rfl (by subst h;rfl)
theorem Ax.start(h:Nat.ble U s.nx=true){fr:AF}(H:Ax P B U Q fr s):av P B U Q fr s:=H<|aL.1 h
theorem xF{g:FuncId}{fn:Func}(h:P.funcs[g]? =some fn)(hb:fn.body.isSome=true):fn.body=some (aW P g []):=by
 unfold aW WV;rw[h];simp only[tL];cases e:fn.body with
 |none=>rw[e] at hb;cases hb
 |some c=>rfl
end
end Go.Rn
namespace Go.Rn
open Go.RowKit
variable {α:Type} {l:List α} {i K n j:Nat} {enc:α->List AV} {c x c':α}
theorem Ug{α:Type}(u v:Option α):∀(p q:List Bool) (t:Tr α),p≠q->Tr.mH u p (Tr.mH v q t)=Tr.mH v q (Tr.mH u p t)
 |[],[],_,h=>absurd rfl h
 |[],b::q,t,_=>by
  cases t with
  |nil=>cases b<;>rfl
  |node l x r=>cases b<;>rfl
 |a::p,[],t,_=>by
  cases t with
  |nil=>cases a<;>rfl
  |node l x r=>cases a<;>rfl
 |a::p,b::q,t,h=>by
  have ih:∀t:Tr α,a=b->Tr.mH u p (Tr.mH v q t)=Tr.mH v q (Tr.mH u p t):=fun t e=>Ug u v p q t (fun e2=>h<|by rw[e,e2]);cases t with
  |nil=>cases a<;>cases b<;>simp[Tr.OA,Tr.Gn,ih]
  |node l x r=>cases a<;>cases b<;>simp[Tr.Gn,ih]
theorem N6(u v:Option α):∀(p:List Bool) (t:Tr α),Tr.mH u p (Tr.mH v p t)=Tr.mH u p t
 |[],t=>by cases t<;>rfl
 |a::p,t=>by
  cases t with
  |nil=>cases a<;>simp[Tr.OA,Tr.Gn,N6 u v p]
  |node l x r=>cases a<;>simp[Tr.Gn,N6 u v p]
theorem put_comm(t:Tr α)(n m:Nat)(u v:Option α)(hn:n<top)(h:n≠m):(t.put m v).put n u=(t.put n u).put m v:=Ug u v _ _ t fun e=>VC hn (fun e2=>h e2.symm) e.symm
theorem adA(t:Tr α)(n:Nat)(u v:Option α):(t.put n v).put n u=t.put n u:=N6 u v _ t
theorem UY:∀(l:List α) (i:Nat) (t:Tr α) (n:Nat),n<i->n<top->(Tr.fill l i t).put n (some x)=Tr.fill l i (t.put n<|some x)
 |[],_,_,_,_,_=>rfl
 |y::l,i,t,n,h,hn=>by show(Tr.fill l (i+1)<|t.put i<|some y).put n (some x)=Tr.fill l (i+1) ((t.put n<|some x).put i<|some y);rw[UY l (i+1) _ n ak hn,put_comm t n i _ _ hn ak]
theorem Uh:∀(l:List α) (i k:Nat) (t:Tr α),k<l.length->i+k<top->(Tr.fill l i t).put (i+k) (some x)=Tr.fill (l.set k x) i t
 |[],_,_,_,h,_=>by simp at h
 |y::l,i,0,t,_,h=>by show(Tr.fill l (i+1)<|t.put i<|some y).put i (some x)=Tr.fill l (i+1) (t.put i<|some x);rw[UY l (i+1) _ i ak h,adA]
 |y::l,i,k+1,t,h,ht=>by show(Tr.fill l (i+1)<|t.put i<|some y).put (i+(k+1)) (some x)=Tr.fill (l.set k x) (i+1) (t.put i<|some y);rw[show i+(k+1)=i+1+k by omega];exact Uh l (i+1) k _ (by simpa using h) ak
def iu:List α->Nat->List α->List α
 |l,_,[]=>l
 |l,k,x::r=>iu (l.set k x) (k+1) r
theorem Ui{α:Type}:∀(r l:List α) (k:Nat),k+r.length<=l.length->l.length<=top->Tr.fill r k (Tr.fill l 0 .nil)=Tr.fill (iu l k r) 0 .nil
 |[],_,_,_,_=>rfl
 |x::r,l,k,h,ht=>by simp only[List.length_cons] at h;show Tr.fill r (k+1) ((Tr.fill l 0 .nil).put k<|some x)=Tr.fill (iu (l.set k x) (k+1) r) 0 .nil;have:=Uh (x:=x) l 0 k .nil ak ak;rw[Nat.zero_add] at this;rw[this];exact Ui r (l.set k x) (k+1) (by rw[List.length_set];omega) (by rw[List.length_set];exact ht)
theorem Pf{α:Type}:∀(r l:List α) (k i:Nat),k+r.length<=l.length->(iu l k r)[i]? =if k<=i/\i<k+r.length then r[i - k]? else l[i]?
 |[],l,k,i,_=>by show l[i]? =_;simp;intro h1 h2;omega
 |x::r,l,k,i,h=>by
  simp only[List.length_cons] at h ⊢;show(iu (l.set k x) (k+1) r)[i]? =_;rw[Pf r (l.set k x) (k+1) i (by rw[List.length_set];omega)];by_cases e:i=k
  ·subst e;rw[if_neg ak,if_pos ak,Nat.sub_self,List.getElem?_set];simp;omega
  ·by_cases q:k+1<=i/\i<k+1+r.length
   ·rw[if_pos q,if_pos ak];obtain⟨j,rfl⟩:∃j,i=k+1+j:=⟨i - (k+1),by omega⟩;rw[show k+1+j - (k+1)=j by omega,show k+1+j - k=j+1 by omega];simp
   ·rw[if_neg q,if_neg ak,List.getElem?_set_ne ak]
theorem J4{K:Nat}{β:Type}:∀{L:List<|List β} {i j:Nat},(∀c∈L,c.length=K)->i<L.length->j<K->∀{c:List β},L[i]? =some c->L.flatten[i*K+j]? =c[j]?
 |[],_,_,_,h,_,_,_=>by simp at h
 |x::L,0,j,hL,_,hj,c,hc=>by simp at hc;subst hc;have hx:=hL x List.mem_cons_self;rw[List.flatten_cons,Nat.zero_mul,Nat.zero_add,List.getElem?_append_left ak]
 |x::L,i+1,j,hL,hi,hj,c,hc=>by have hx:=hL x List.mem_cons_self;rw[List.flatten_cons,List.getElem?_append_right (by rw[hx,Nat.add_mul];omega),hx,show(i+1)*K+j - K=i*K+j by rw[Nat.add_mul];omega];exact J4 (fun c hc=>hL c<|List.mem_cons_of_mem _ hc) (by simpa using hi) hj (by simpa using hc)
theorem adB(he:∀x,(enc x).length=K){r:List AV}(hc:l[i]? =some c)(hr:enc c'=iu (enc c) j r)(hj:j+r.length<=K):iu (l.map enc).flatten (i*K+j) r=((l.set i c').map enc).flatten:=by
 have hi:=(List.getElem?_eq_some_iff.1 hc).1;have dE:∀(l:List α),∀c∈l.map enc,c.length=K:=fun l c hc=>by obtain⟨x,_,rfl⟩:=List.mem_map.1 hc;exact he x
 have y8:∀l:List α,(l.map enc).flatten.length=l.length*K:=fun l=>by rw[tD<|dE l,List.length_map]
 have hmul:i*K+K<=l.length*K:=by have:=Nat.mul_le_mul_right K hi;rw[Nat.succ_mul] at this;exact this
 apply List.ext_getElem?;intro m;rw[Pf _ _ _ _ (by rw[y8];omega)];by_cases hm:m<l.length*K
 ·have hK:0<K:=by
   cases K with
   |zero=>simp at hm
   |succ k=>omega
  have hq:m / K<l.length:=by rw[Nat.div_lt_iff_lt_mul hK];exact hm
  have F0:m=m / K*K+m % K:=by rw[Nat.mul_comm];exact(Nat.div_add_mod m K).symm
  have HX:m % K<K:=Nat.mod_lt _ hK;have hold:(l.map enc).flatten[m]? =(enc<|l[m / K]'hq)[m % K]? :=by
   conv=>lhs;rw[F0]
   exact J4 (dE l) (by rw[List.length_map];exact hq) HX (by rw[List.getElem?_map,List.getElem?_eq_getElem hq];rfl)
  have dR:m / K<(l.set i c').length:=by rw[List.length_set];exact hq
  have wv:((l.set i c').map enc).flatten[m]? =(enc<|(l.set i c')[m / K]'dR)[m % K]? :=by
   conv=>lhs;rw[F0]
   exact J4 (dE _) (by rw[List.length_map];exact dR) HX (by rw[List.getElem?_map,List.getElem?_eq_getElem dR];rfl)
  rw[wv,hold];by_cases e:m / K=i
  ·have hci:l[m / K]'hq=c:=by
    have:l[m / K]? =some c:=by rw[e];exact hc
    rw[List.getElem?_eq_getElem hq] at this;injection this
   have uW:(l.set i c')[m / K]'dR=c':=by simp[e]
   rw[uW,hci,hr,Pf _ _ _ _ (by rw[he];exact hj)];have an0:m=i*K+m % K:=by rw[e] at F0;exact F0
   by_cases q:j<=m % K/\m % K<j+r.length
   ·rw[if_pos ak,if_pos q];congr 1;omega
   ·rw[if_neg (by intro q2;apply q;omega),if_neg q]
  ·have uW:(l.set i c')[m / K]'dR=l[m / K]'hq:=by rw[List.getElem_set_ne fun e2=>e e2.symm]
   rw[uW,if_neg];intro q;apply e;have h1:m<(i+1)*K:=by rw[Nat.add_mul];omega
   have h2:i*K<=m:=by omega
   have h3:=(Nat.le_div_iff_mul_le hK).2 h2;have h4:=(Nat.div_lt_iff_lt_mul hK).2 h1;omega
 ·rw[if_neg ak,List.getElem?_eq_none (by rw[y8];omega),List.getElem?_eq_none (by rw[y8,List.length_set];omega)]
noncomputable section
def bc(n:Nat)(s:AS):AS:= @Bool.rec (fun _=>AS) s ⟨s.h,s.nx,s.mark,n::s.rd,s.wr⟩<|Nat.blt n s.mark
def fB(n:Nat)(o:Option ae)(s:AS):AS:= @Bool.rec (fun _=>AS) ⟨s.h.put n o,s.nx,s.mark,s.rd,s.wr⟩ ⟨s.h.put n o,s.nx,s.mark,n::s.rd,n::s.wr⟩<|Nat.blt n s.mark
end
section
variable {P:Program} {s:AS} {SI:aO} {t:Tr AV}
theorem lW{o:ae}(h1:Nat.blt n s.nx=true)(h2:s.h.get n=some o):bw n s= .ok o (bc n s):=by obtain⟨hh,nx,mark,rd,wr⟩:=s;have e1:Nat.blt n nx=true:=h1;have e2:hh.get n=some o:=h2;show @Bool.rec (fun _=>R ae) .bad (@Option.rec ae (fun _=>R ae) .bad (fun o=> @Bool.rec (fun _=>R ae) (.ok o ⟨hh,nx,mark,rd,wr⟩) (.ok o ⟨hh,nx,mark,n::rd,wr⟩)<|Nat.blt n mark)<|hh.get n) (Nat.blt n nx)=_;rw[e1,e2];show @Bool.rec (fun _=>R ae) (.ok o ⟨hh,nx,mark,rd,wr⟩) (.ok o ⟨hh,nx,mark,n::rd,wr⟩) (Nat.blt n mark)= .ok o (@Bool.rec (fun _=>AS) ⟨hh,nx,mark,rd,wr⟩ ⟨hh,nx,mark,n::rd,wr⟩<|Nat.blt n mark);cases Nat.blt n mark<;>rfl
theorem fN(n:Nat)(s:AS):(bc n s).h=s.h/\(bc n s).nx=s.nx/\(bc n s).mark=s.mark:=by unfold bc;cases Nat.blt n s.mark<;>exact⟨rfl,rfl,rfl⟩
theorem xN{o:Option ae}{p:ae}(h1:Nat.blt n s.nx=true)(h2:s.h.get n=some p)(h3:p.du=false)(ht:Nat.blt n top=true):bM n o s= .ok () (fB n o s):=by obtain⟨hh,nx,mark,rd,wr⟩:=s;have e1:(Nat.blt n nx&&Nat.blt n top)=true:=and_true.2 ⟨h1,ht⟩;have e2:hh.get n=some p:=h2;show @Bool.rec (fun _=>R Unit) .bad (@Option.rec ae (fun _=>R Unit) .bad (fun p=> @Bool.rec (fun _=>R Unit) (@Bool.rec (fun _=>R Unit) (.ok () ⟨hh.put n o,nx,mark,rd,wr⟩) (.ok () ⟨hh.put n o,nx,mark,n::rd,n::wr⟩)<|Nat.blt n mark) .bad p.du)<|hh.get n) (Nat.blt n nx&&Nat.blt n top)=_;rw[e1,e2];show @Bool.rec (fun _=>R Unit) (@Bool.rec (fun _=>R Unit) (.ok () ⟨hh.put n o,nx,mark,rd,wr⟩) (.ok () ⟨hh.put n o,nx,mark,n::rd,n::wr⟩)<|Nat.blt n mark) .bad p.du=_;rw[h3];show @Bool.rec (fun _=>R Unit) (.ok () ⟨hh.put n o,nx,mark,rd,wr⟩) (.ok () ⟨hh.put n o,nx,mark,n::rd,n::wr⟩) (Nat.blt n mark)= .ok () (@Bool.rec (fun _=>AS) ⟨hh.put n o,nx,mark,rd,wr⟩ ⟨hh.put n o,nx,mark,n::rd,n::wr⟩<|Nat.blt n mark);cases Nat.blt n mark<;>rfl
theorem zF(he:∀x,(enc x).length=K)(l:List α):(l.map enc).flatten.length=l.length*K:=by rw[tD (K:=K) (fun c hc=>by obtain⟨x,_,rfl⟩:=List.mem_map.1 hc;exact he x),List.length_map]
theorem VP(he:∀x,(enc x).length=K){k:Nat}(hc:l[i]? =some c)(hj:j+k<=K):i*K+j+k<=(l.map enc).flatten.length/\((l.map enc).flatten.drop<|i*K+j).take k=((enc c).drop j).take k:=by
 have hi:=(List.getElem?_eq_some_iff.1 hc).1;have hmul:i*K+K<=l.length*K:=by have:=Nat.mul_le_mul_right K hi;rw[Nat.succ_mul] at this;exact this
 refine⟨by rw[zF he];omega,?_⟩;apply List.ext_getElem?;intro m;rw[List.getElem?_take,List.getElem?_take];split
 ·rename_i hm;rw[List.getElem?_drop,List.getElem?_drop,Nat.add_assoc];exact J4 (fun c hc=>by obtain⟨x,_,rfl⟩:=List.mem_map.1 hc;exact he x) (by rw[List.length_map];exact hi) ak (by rw[List.getElem?_map,hc];rfl)
 ·rfl
theorem UZ(h:l[i]? =some c):(l.set i c')[i]? =some c':=by have hi:=(List.getElem?_eq_some_iff.1 h).1;rw[List.getElem?_set_self hi]
end
end Go.Rn
namespace Go.Rn
open Go.RowKit
def U0(W:World):aw:=fun k=>if k<fH then some (k,match W.heap[k]? with|some (.cells c _ _)=>c.size|_=>0) else none
end Go.Rn
namespace Go.Rn
variable {ops:Array Oper}
def agC(ops:Array Oper):Bool:=ops.toList.zipIdx.all fun x=>x.1.after.toList.all fun e=> !Region.binds .any e||decide (e.on<x.2)
def Qo(ops:Array Oper)(x y:Oper):Bool:=
 match x.dst with
 |none=>false
 |some d=>(y.looksAt ops).contains d||y.dst == some d
def agD(ops:Array Oper)(b:Array Nat):Bool:=ops.toList.zipIdx.all fun x=>ops.toList.zipIdx.all fun y=> !(Qo ops x.1 y.1)||(Nat.beq x.2 y.2|| !loose b x.2 y.2)
def QR(ops:Array Oper):Bool:=agC ops&&agD ops (CheckFast.beforeF ops)
def tM:Code->Bool
 | .seq a b=>tM a&&tM b
 | .cond _ a b=>tM a&&tM b
 | .block _ b=>tM b
 | .loop b=>tM b
 | .scope b=>tM b
 | .region _ ops draw=> !draw||QR ops
 | .rangeFunc _ _ a b=>tM a&&tM b
 |_=>true
def ah2(P:Program):Bool:=P.funcs.toList.all fun fn=>match fn.body with
 |none=>true
 |some c=>tM c
theorem NH{i:Nat}{o:Oper}(h:ops[i]? =some o):(o,i)∈ops.toList.zipIdx:=by rw[List.mem_zipIdx_iff_getElem?];simpa using h
theorem aeU(h:QR ops=true):Li ops:=by
 unfold QR at h;obtain⟨h1,h2⟩:=Bool.and_eq_true_iff.1 h;rw[CheckFast.beforeF_eq] at h2;refine⟨fun j o e ho hm hb=>?_,fun i j x y d mM hx hy hd cZ=>?_⟩
 ·have:=List.all_eq_true.1 (List.all_eq_true.1 h1 _<|NH ho) e<|Array.mem_toList_iff.2 hm;simp only[hb,Bool.not_true,Bool.false_or,decide_eq_true_eq] at this;exact this
 ·have:=List.all_eq_true.1 (List.all_eq_true.1 h2 _<|NH hx) _<|NH hy;have hc:Qo ops x y=true:=by
   unfold Qo;rw[hd];simp only[Bool.or_eq_true,beq_iff_eq];rcases cZ with q|q
   ·exact .inl<|List.contains_iff_mem.2 q
   ·exact .inr q
  simp only[hc,Bool.not_true,Bool.false_or,Bool.or_eq_true,Bool.not_eq_true'] at this;rcases this with q|q
  ·exact absurd (Nat.beq_eq.mp q) mM
  ·exact q
theorem abD:∀{c:Code},tM c=true->iD c:=by
 intro c;induction c with
 |seq a b CV CW=>intro h;obtain⟨h1,h2⟩:=Bool.and_eq_true_iff.1 h;exact⟨CV h1,CW h2⟩
 |cond _ a b CV CW=>intro h;obtain⟨h1,h2⟩:=Bool.and_eq_true_iff.1 h;exact⟨CV h1,CW h2⟩
 |block _ b ih=>intro h;exact ih h
 |loop b ih=>intro h;exact ih h
 |scope b ih=>intro h;exact ih h
 |region id ops draw=>intro h hd;subst hd;exact aeU h
 |rangeFunc _ _ a b CV CW=>intro h;obtain⟨h1,h2⟩:=Bool.and_eq_true_iff.1 h;exact⟨CV h1,CW h2⟩
 |_=>intro _;trivial
theorem anC{P:Program}(hm:P.follows .mixedOrders=true)(h:ah2 P=true):bB P:=by refine⟨hm,fun f fn body hf hb=>?_⟩;have:=List.all_eq_true.1 h fn (List.mem_of_getElem?<|by simpa using hf);rw[hb] at this;exact abD this
end Go.Rn
namespace Go.Rn
open Go.RowKit
noncomputable section
end
end Go.Rn
namespace Go.Rn
open Go.RowKit
noncomputable section
end
section
variable {P:Program} {s s1:AS} {SI:aO} {t:Tr AV}
end
end Go.Rn
namespace Go.Rn
end Go.Rn
namespace Go.Rn
open Go.RowKit
variable {ρ σ:aw} {x:AV} {v:Value}
theorem aeV(k:IntKind)(lo hi:Int)(n:Int)(h:lo<=n/\n<=hi)(hk:(k.signed=true/\lo= -(2 ^ (k.bits - 1):Int)/\hi=(2 ^ (k.bits - 1):Int) - 1/\(2 ^ k.bits:Int)=2*(2 ^ (k.bits - 1):Int)/\(0:Int)<(2 ^ (k.bits - 1):Int))\/(k.signed=false/\lo=0/\hi=(2 ^ k.bits:Int) - 1)):IntKind.wrap k n=n:=by
 unfold IntKind.wrap;rcases hk with⟨hs,h1,h2,h3,h4⟩|⟨hs,h1,h2⟩
 ·simp only[hs,Bool.true_and,decide_eq_true_eq];subst h1;subst h2;rw[h3];generalize (2 ^ (k.bits - 1):Int)=p at*;by_cases q:0<=n
  ·have:n % (2*p)=n:=Int.emod_eq_of_lt q ak;rw[this,if_neg ak]
  ·have:n % (2*p)=n+2*p:=by rw[←Int.add_emod_right,Int.emod_eq_of_lt ak ak]
   rw[this,if_pos ak];omega
 ·simp only[hs,Bool.false_and];subst h1;subst h2;have:n % (2 ^ k.bits:Int)=n:=Int.emod_eq_of_lt h.1 ak;simp[this]
theorem Bl{n:Int}(h: -9223372036854775808<=n/\n<=9223372036854775807):IntKind.wrap .i64 n=n:=aeV .i64 _ _ n h<|.inl ⟨rfl,by decide,by decide,by decide,by decide⟩
section
variable {P:Program} {s s1:AS} {SI:aO} {t:Tr AV}
end
def AV.cq(x:AV):Bool:=match x with
 | .ab n _ _=>Nat.ble top n
 |x=>x.flat
def AV.wT(x:AV):Bool:=match x with
 | .agg l=>l.all AV.cq
 |x=>x.cq
def AV.hi(x:AV):Bool:=match x with
 | .agg l=>l.all AV.cq
 | .tuple l=>l.all AV.wT
 |x=>x.cq
def iM(ρ σ:aw):Prop:=∀k x,top<=k->ρ k=some x->σ k=some x
theorem qU.hi(h:iM ρ σ){n b sh:Nat}(ht:top<=n)(k:qU ρ n b sh):qU σ n b sh:=.inr ⟨ht,fun e=>k.high ht (by
 cases q:ρ (hn n b sh) with
 |none=>rfl
 |some x=>rw[h _ _ (gg _ _ _) q] at e;cases e)⟩
theorem VR.flat(h:x.flat=true)(k:VR ρ x v):VR σ x v:=by
 cases x<;>first|(simp only[VR] at k ⊢;exact k)|(cases h;done)|skip
 case slice a len cap=>cases a with
  |some _=>cases h
  |none=>cases cap with
   |known c=>simp only[VR] at k ⊢;exact k
   |ar _ _=>cases h
   |lost=>cases h
 all_goals
  rename_i a;cases a with
  |none=>simp only[VR] at k ⊢;exact k
  |some _=>cases h
theorem AV.tY(km:iM ρ σ)(h:x.cq=true)(k:VR ρ x v):VR σ x v:=by
 unfold AV.cq at h;split at h
 ·have ht:=aL.1 h;simp only[VR] at k ⊢;exact k.imp id fun⟨b,sh,c,q1,q2⟩=>⟨b,sh,c,q1.hi km ht,q2⟩
 ·exact VR.flat h k
theorem AV.Pg(km:iM ρ σ):∀{l:List AV} {vs:List Value},l.all AV.cq=true->az ρ l vs->az σ l vs
 |[],_,_,hv=>by simpa only[az] using hv
 |y::l,vs,hy,hv=>by obtain⟨h1,h2⟩:=and_true.1 (show(y.cq&&l.all AV.cq)=true from hy);simp only[az] at hv ⊢;obtain⟨a,as,e,h3,h4⟩:=hv;exact⟨a,as,e,AV.tY km h1 h3,AV.Pg km h2 h4⟩
theorem AV.agE(km:iM ρ σ)(h:x.wT=true)(k:VR ρ x v):VR σ x v:=by
 unfold AV.wT at h;split at h
 ·simp only[VR] at k ⊢;obtain⟨a,e,q⟩:=k;exact⟨a,e,AV.Pg km h q⟩
 ·exact AV.tY km h k
theorem AV.VQ(km:iM ρ σ):∀{l:List AV} {vs:List Value},l.all AV.wT=true->az ρ l vs->az σ l vs
 |[],_,_,hv=>by simpa only[az] using hv
 |y::l,vs,hy,hv=>by obtain⟨h1,h2⟩:=and_true.1 (show(y.wT&&l.all AV.wT)=true from hy);simp only[az] at hv ⊢;obtain⟨a,as,e,h3,h4⟩:=hv;exact⟨a,as,e,AV.agE km h1 h3,AV.VQ km h2 h4⟩
theorem AV.oY(km:iM ρ σ)(h:x.hi=true)(k:VR ρ x v):VR σ x v:=by
 unfold AV.hi at h;split at h
 ·simp only[VR] at k ⊢;obtain⟨a,e,q⟩:=k;exact⟨a,e,AV.Pg km h q⟩
 ·simp only[VR] at k ⊢;obtain⟨a,e,q⟩:=k;exact⟨a,e,AV.VQ km h q⟩
 ·exact AV.tY km h k
theorem AV.zW(km:iM ρ σ):∀{l:List AV} {vs:List Value},l.all AV.hi=true->az ρ l vs->az σ l vs
 |[],_,_,hv=>by simpa only[az] using hv
 |y::l,vs,hy,hv=>by obtain⟨h1,h2⟩:=and_true.1 (show(y.hi&&l.all AV.hi)=true from hy);simp only[az] at hv ⊢;obtain⟨a,as,e,h3,h4⟩:=hv;exact⟨a,as,e,AV.oY km h1 h3,AV.zW km h2 h4⟩
theorem agF:iM ρ<|gq ρ:=fun k x hk e=>by unfold gq;rw[if_pos hk];exact e
end Go.Rn
namespace Go.Rn
open Go.RowKit
def pe(sp:Sp)(g:FuncId)(m:aO->List AV->M AV):Sp:=fun f=>bif Nat.beq f g then some m else sp f
theorem TC{sp:Sp}{g:FuncId}{m m':aO->List AV->M AV}{f:FuncId}(h:pe sp g m f=some m'):(f=g/\m'=m)\/sp f=some m':=by
 unfold pe at h;cases e:Nat.beq f g with
 |true=>rw[e] at h;injection h with h;exact .inl ⟨Nat.eq_of_beq_eq_true e,h.symm⟩
 |false=>rw[e] at h;exact .inr h
end Go.Rn
namespace Go.Rn
end Go.Rn

namespace Go.Rn
open Go.RowKit
noncomputable section
def dK(U:Nat)(h0:Tr ae)(ns:List Nat)(s:AS):AS:=match fe U h0 ns s with| .ok _ s1=>s1| .bad=>s
def qg(U:Nat)(h0:Tr ae)(ns:List Nat)(s:AS):Bool:=match fe U h0 ns s with| .ok _ _=>true| .bad=>false
end
theorem vI{U:Nat}{h0:Tr ae}{ns:List Nat}{s:AS}(h:qg U h0 ns s=true):fe U h0 ns s= .ok () (dK U h0 ns s):=by
 unfold qg at h;unfold dK;cases e:fe U h0 ns s with
 |bad=>rw[e] at h;cases h
 |ok u s1=>rfl
section
variable {P:Program} {s s1:AS} {SI:aO} {t:Tr AV}
end
def Ck(n:Int):Prop:= -9223372036854775808<=n/\n<=9223372036854775807
instance (n:Int):Decidable<|Ck n:=by unfold Ck;infer_instance
end Go.Rn
namespace Go.Rn
open Go.RowKit
variable {va:Bool} {rs ps:Array TypeId} {e:TypeId} {P:Program}
def J5(P:Program):DataW (List UInt8)->Option FuncId->Bool
 | .nil,none=>true
 | .held (b::r),some f=>(List.range P.funcs.size).filter (fun f=>(P.funcs[f]?).any (·.name.toUTF8.data.toList == b::r)) == [f]
 |_,_=>false
def BL(P:Program):List (DataW<|List UInt8)->List (Option FuncId)->Bool
 |[],[]=>true
 |d::ds,f::fs=>J5 P d f&&BL P ds fs
 |_,_=>false
def ah3(P:Program)(d:DataW<|List UInt8)(fs:List<|Option FuncId):Bool:=
 match d with
 | .agg ds=>BL P ds fs
 |_=>false
def J6:Option FuncId->AV
 |none=>.nilFunc
 |some f=>.func (.func f) [] []
def Ek:Option FuncId->Value
 |none=>.nilFunc
 |some f=>.func (.func f) #[] #[]
theorem anD(ρ:aw)(f:Option FuncId):VR ρ (J6 f)<|Ek f:=by
 cases f with
 |none=>simp only[J6,Ek,VR]
 |some f=>simp only[J6,Ek,VR,az];exact⟨rfl,_,_,rfl,rfl,rfl⟩
theorem U1{α β:Type}{f:α->Option β}:∀{l:List α} {r:List β},l.mapM f=some r->l.length=r.length/\∀(i:Nat) (x:α),l[i]? =some x->∃y,r[i]? =some y/\f x=some y
 |[],r,h=>by simp at h;subst h;exact⟨rfl,fun i x hx=>by simp at hx⟩
 |a::l,r,h=>by
  rw[List.mapM_cons] at h;cases e:f a with
  |none=>simp[e] at h
  |some b=>
   cases e2:l.mapM f with
   |none=>simp[e,e2] at h
   |some bs=>
    simp[e,e2] at h;subst h;obtain⟨h1,h2⟩:=U1 e2;refine⟨by simp[h1],fun i x hx=>?_⟩;cases i with
    |zero=>simp at hx;subst hx;exact⟨b,rfl,e⟩
    |succ i=>simp at hx;obtain⟨y,h3,h4⟩:=h2 i x hx;exact⟨y,by simpa using h3,h4⟩
theorem aaF{w:World}{fuel:Nat}{v:Value}{d:DataW<|List UInt8}{q:List MemPlace}{f:Option FuncId}(he:P.underlying e=some (.func ps rs va))(h:DataW.trod (funcToken P) P w 0 (fun _=>true) true fuel e [v]=some (d,q))(hk:J5 P d f=true):v=Ek f:=by
 unfold J5 at hk;split at hk
 ·cases fuel with
  |zero=>simp[DataW.trod] at h
  |succ n=>cases v<;>simp[DataW.trod,he] at h;rfl
 ·exact func_of_trod he (by simpa using hk) h
 ·cases hk
theorem Th{P:Program}:∀{ds:List<|DataW<|List UInt8} {fs:List<|Option FuncId},BL P ds fs=true->ds.length=fs.length/\∀(i:Nat) d f,ds[i]? =some d->fs[i]? =some f->J5 P d f=true
 |[],[],_=>⟨rfl,fun i d f h=>by simp at h⟩
 |[],_::_,h=>by simp[BL] at h
 |_::_,[],h=>by simp[BL] at h
 |d::ds,f::fs,h=>by
  simp only[BL,Bool.and_eq_true] at h;obtain⟨h1,h2⟩:=Th h.2;refine⟨by simp[h1],fun i a b ha hb=>?_⟩;cases i with
  |zero=>simp at ha hb;subst ha;subst hb;exact h.1
  |succ i=>simp at ha hb;exact h2 i a b ha hb
theorem anB{W:World}{name:String}{d:DataW Unit}{g:Nat}{t:TypeId}{n:Nat}{fs:List<|Option FuncId}(h:funcsAt P W name d)(hg:P.globalNamed name=some g)(hty:(P.globals[g]?).map (·.type)=some t)(ht:P.underlying t=some (.array n e))(he:P.underlying e=some (.func ps rs va))(hc:P.cellsOf e=1)(hct:P.cellsOf t=n)(hd:ah3 P d.funcsOut fs=true):
 ∃c ty fr,W.heap[g]? =some (.cells c ty fr)/\fs.length=c.size/\∀(i:Nat) f,fs[i]? =some f->c[i]? =some (Ek f):=by
 obtain⟨g',t',cs,fuel,p,h1,h2,h3,h4⟩:=h;obtain rfl:g=g':=Option.some.inj<|hg.symm.trans h1;obtain rfl:t=t':=Option.some.inj<|hty.symm.trans h2;have mV:∃ty fr,W.heap[g]? =some (.cells cs ty fr):=by
  unfold World.var? at h3;rw[hg] at h3;simp only[Option.bind_some] at h3;split at h3
  ·rename_i c ty fr e;injection h3 with h3;subst h3;exact⟨ty,fr,e⟩
  ·cases h3
 obtain⟨ty,fr,mV⟩:=mV;cases fuel with
 |zero=>simp[DataW.trod] at h4
 |succ m=>
  rw[DataW.trod_step] at h4;unfold DataW.trodStep at h4;simp only[ht,hc,Nat.mul_one] at h4;split at h4
  ·rename_i hlen;rw[Option.map_eq_some_iff] at h4;obtain⟨xs,h5,h6⟩:=h4;obtain⟨h7,h8⟩:=U1 h5;have ajZ:d.funcsOut= .agg (xs.map (·.1)):=by injection h6 with h6 _;exact h6.symm
   rw[ajZ] at hd;obtain⟨h9,gH⟩:=Th (show BL P (xs.map (·.1)) fs=true from hd);have hxl:xs.length=fs.length:=by simpa using h9
   have get:∀(i:Nat) f,fs[i]? =some f->cs[i]? =some (Ek f):=by
    intro i f hf;have hi:i<fs.length:=(List.getElem?_eq_some_iff.1 hf).1;obtain⟨y,uV,rr⟩:=h8 i i (by rw[List.getElem?_range (by simp at h7;omega)]);obtain⟨v,hv⟩:∃v,(cs.toList.drop i).take 1=[v]:=by
     cases hq:(cs.toList.drop i).take 1 with
     |nil=>
      rw[hq] at rr;cases m with
      |zero=>simp[DataW.trod] at rr
      |succ k=>simp[DataW.trod,he] at rr
     |cons v l=>
      have:((cs.toList.drop i).take 1).length<=1:=List.length_take_le _ _;rw[hq] at this;cases l with
      |nil=>exact⟨v,rfl⟩
      |cons=>simp at this
    rw[hv] at rr;have HT:=aaF (f:=f) (d:=y.1) (q:=y.2) he rr<|gH i y.1 f (by rw[List.getElem?_map,uV];rfl) hf;have:(cs.toList.drop i)[0]? =some v:=by
     have:((cs.toList.drop i).take 1)[0]? =some v:=by rw[hv];rfl
     rw[List.getElem?_take_of_lt ak] at this;exact this
    rw[List.getElem?_drop,Nat.add_zero,Array.getElem?_toList] at this;rw[this,HT]
   refine⟨cs,ty,fr,mV,?_,get⟩;have Xx:=hlen;rw[hct] at Xx;simp at Xx h7;omega
  ·cases h4
theorem adC(l:List AV)(hl:l.length<=top)(i:Nat)(hi:i<l.length):(Tr.fill l 0 .nil).get i=l[i]? :=by rw[Tr.xy _ _ _ _ ak,if_pos ak];simp
end Go.Rn
namespace Go.Rn
open Go.RowKit
noncomputable section
end
end Go.Rn
namespace Go.Rn
open Go.RowKit
noncomputable section
end
section
variable {P:Program} {B:aJ} {U:Nat} {s s1:AS} {SI:aO} {t:Tr AV} {ops:Array Oper} {f nt i:Nat} {K:List Item} {G:AF->AS->Prop} {acc:List dC} {rs:List ResultVar} {v v':AV}
end
section
variable {P:Program} {s s1:AS} {SI:aO} {t:Tr AV}
end
noncomputable section
end
section
variable {P:Program} {F:Nat->Option (List AV)} {sp:Sp} {g n k:Nat} {ad:Option<|Nat×Nat} {cp:cM} {s:AS} {l:List AV} {a b c d:ByteArray} {n1 n2 n3 n4:Nat}
end
end Go.Rn
namespace Go.Rn
open Go.RowKit
noncomputable section
end
end Go.Rn
namespace Go.Rn
end Go.Rn
namespace Go.Rn
open Go.RowKit
variable {n:Nat} {α:Type} {y x:Operand} {ty e:TypeId} {ts:Array TypeId} {l:List α} {i:TypeInfo} {enc:α->List AV}
section
variable {P:Program} {s:AS} {SI:aO} {t:Tr AV}
theorem DH{off k:Nat}{l:List AV}(h1:Nat.blt n s.nx=true)(h2:s.h.get n=some (.cells l.length (Tr.fill l 0 .nil) []))(hl:l.length<=top)(Zi:0<k)(hk:off+k<=l.length):jd n off k s= .ok ((l.drop off).take k) (bc n s):=by
 cases k with
 |zero=>omega
 |succ k=>
  show((bw n).bind fun o=>match o with
   | .cells m t z=>aF (Nat.ble (off+(k+1)) m) <| lift (lY t z (k+1) off)
   | .ro m t=>aF (Nat.ble (off+(k+1)) m) <| lift (lY t [] (k+1) off)
   |_=>fail) s=_
  rw[M.bN<|lW h1 h2];show aF (Nat.ble (off+(k+1)) l.length) (lift<|lY (Tr.fill l 0 .nil) [] (k+1) off) (bc n s)=_;rw[aL.2 hk,dz,Nw hl _ _ hk];rfl
theorem agG{L:List α}{len:Nat}{cap:cM}{n0 o0 k0:Nat}(hx:aK t x=some (.slice (some (n,0)) len cap))(hlen:len=l.length)(hy:aK t y=some (.ab n0 o0 k0))(h0:ts[0]? =some ty)(hu:P.underlying ty=some (.slice e))(hi:P.info? e=some i)(hz:and (tJ i) (pP P ts[1]?)=true)(dm:Qf i.size len cap=true)(dI:top<=n0)(eN:∀s,SI (.row n0 o0<|k0*i.size) [] s= .ok (.agg (L.map enc).flatten) s)(hk:k0=L.length)(hn:s.h.get n=some (aI enc l))(cY:(Nat.blt n s.nx&&Nat.blt s.nx top)=true)(yG:∀x:α,(enc x).length=i.size/\(enc x).all AV.cj=true)(hb:Nat.beq i.bytes 0=false)(ur:2*(l.length+L.length)*i.bytes+4096*i.bytes<=room)(lv:(l.length+L.length)*i.size<=top):
 ∃rd wr,(∀k∈rd,k=n\/k∈s.rd)/\(∀k∈wr,k=n\/k∈s.wr)/\(s.mark=0->rd=s.rd/\wr=s.wr)/\(dO P<|.call ⟨.builtin .append, #[x,y],ts⟩).val SI t s= .ok (.slice (some (s.nx,0)) (l++L).length<|.ar (l++L).length i.size) ⟨(s.h.put n none).put s.nx<|some<|aI enc<|l++L,s.nx+1,s.mark,rd,wr⟩:=by
 subst hlen;subst hk;obtain⟨fC,Db⟩:=and_true.1 cY;have aj0:=(blt_eq _ _).mp fC;have CC:=(blt_eq _ _).mp Db;have o5:∀l:List α,(l.map enc).flatten.length=l.length*i.size:=fun l=>by
  have:=tD (K:=i.size) (l:=l.map enc) fun c hc=>by obtain⟨a,_,rfl⟩:=List.mem_map.1 hc;exact(yG a).1
  rw[this,List.length_map]
 have wt:∀l:List α,(l.map enc).flatten.all AV.cj=true:=by
  intro l;induction l with
  |nil=>rfl
  |cons x l ih=>simp only[List.map_cons,List.flatten_cons,List.all_append,ih,(yG x).2,Bool.and_true]
 have cF:(l.map enc).flatten.length<=top:=by rw[o5];have:=Nat.mul_le_mul_right i.size (show l.length<=l.length+L.length by omega);omega
 have Qp:∃rd,(∀k∈rd,k=n\/k∈s.rd)/\(s.mark=0->rd=s.rd)/\jd n 0 (l.length*i.size) s= .ok (l.map enc).flatten ⟨s.h,s.nx,s.mark,rd,s.wr⟩:=by
  cases hk:l.length*i.size with
  |zero=>have:(l.map enc).flatten=[]:=List.eq_nil_of_length_eq_zero (by rw[o5,hk]);rw[this];exact⟨s.rd,fun k h=>.inr h,fun _=>rfl,rfl⟩
  |succ k=>
   have hr:=DH (n:=n) (off:=0) (k:=k+1) (l:=(l.map enc).flatten) (s:=s) fC hn cF (Nat.succ_pos _) (by rw[o5,hk];omega);rw[List.drop_zero, ←hk, ←o5,List.take_length] at hr;rw[←hk, ←o5];refine⟨(bc n s).rd,?_,fun hm=>?_,?_⟩
   ·intro k h;unfold bc at h;cases q:Nat.blt n s.mark with
    |false=>rw[q] at h;exact .inr h
    |true=>rw[q] at h;rcases List.mem_cons.1 h with h|h;exact .inl h;exact .inr h
   ·unfold bc;rw[hm,show Nat.blt n 0=false from by cases q:Nat.blt n 0 with|false=>rfl|true=>have:=(blt_eq _ _).mp q;omega]
   ·rw[hr];congr 1;unfold bc;cases Nat.blt n s.mark<;>rfl
 obtain⟨gu,a1,a2,a3⟩:=Qp;have qe:∃rd wr,(∀k∈rd,k=n\/k∈s.rd)/\(∀k∈wr,k=n\/k∈s.wr)/\(s.mark=0->rd=s.rd/\wr=s.wr)/\
  ((bw n).bind fun ob=>aF ob.zJ <| (bM n none).bind fun _=>grown i.size i.bytes (l.length+L.length) (l.map enc).flatten (L.map enc).flatten) ⟨s.h,s.nx,s.mark,gu,s.wr⟩= .ok (.slice (some (s.nx,0)) (l.length+L.length)<|.ar (l.length+L.length) i.size) ⟨(s.h.put n none).put s.nx<|some<|aI enc<|l++L,s.nx+1,s.mark,rd,wr⟩:=by
  rw[M.bN<|lW (s:=⟨s.h,s.nx,s.mark,gu,s.wr⟩) fC hn];rw[show(aI enc l).zJ=true from rfl,dz];obtain⟨b1,b2,b3⟩:=fN n ⟨s.h,s.nx,s.mark,gu,s.wr⟩;rw[M.bN<|xN (o:=none) (p:=aI enc l) (s:=bc n ⟨s.h,s.nx,s.mark,gu,s.wr⟩) (by rw[b2];exact fC) (by rw[b1];exact hn) rfl (by rw[blt_eq];omega)];have QS:(l.map enc).flatten++(L.map enc).flatten=((l++L).map enc).flatten:=by rw[List.map_append,List.flatten_append]
  unfold grown;rw[show(and (Nat.ble (2*(l.length+L.length)*i.bytes+4096*i.bytes) room)<|not<|Nat.beq i.bytes 0)=true from and_true.2 ⟨aL.2 ur,by rw[hb];rfl⟩,dz,QS];have hw:∃rd wr,(∀k∈rd,k=n\/k∈s.rd)/\(∀k∈wr,k=n\/k∈s.wr)/\(s.mark=0->rd=s.rd/\wr=s.wr)/\fB n none (bc n ⟨s.h,s.nx,s.mark,gu,s.wr⟩)=⟨s.h.put n none,s.nx,s.mark,rd,wr⟩:=by
   unfold fB bc;cases q:Nat.blt n s.mark with
   |false=>refine⟨gu,s.wr,a1,fun k h=>.inr h,fun hm=>⟨a2 hm,rfl⟩,?_⟩;show(@Bool.rec (fun _=>AS) _ _<|Nat.blt n s.mark)=_;rw[q]
   |true=>
    refine⟨n::n::gu,n::s.wr,?_,?_,fun hm=>?_,?_⟩
    ·intro k h;rcases List.mem_cons.1 h with h|h
     ·exact .inl h
     ·rcases List.mem_cons.1 h with h|h
      ·exact .inl h
      ·exact a1 k h
    ·intro k h;rcases List.mem_cons.1 h with h|h
     ·exact .inl h
     ·exact .inr h
    ·rw[hm] at q;have:=(blt_eq _ _).mp q;omega
    ·show(@Bool.rec (fun _=>AS) _ _<|Nat.blt n s.mark)=_;rw[q]
  obtain⟨rd,wr,c1,c2,c3,c4⟩:=hw;rw[c4];refine⟨rd,wr,c1,c2,c3,?_⟩;have wv:=JC (s:=⟨s.h.put n none,s.nx,s.mark,rd,wr⟩) (l:=((l++L).map enc).flatten) (by rw[o5];simpa using lv) (wt _) CC;exact(M.bN wv).trans rfl
 obtain⟨rd,wr,d1,d2,d3,d4⟩:=qe;refine⟨rd,wr,d1,d2,d3,?_⟩;show oz P .append ts [x,y] SI t s=_;unfold oz;have mI:jQ (aK t) [x,y]=some [.slice (some (n,0)) l.length cap,.ab n0 o0 L.length]:=by simp only[jQ,hx,hy]
 rw[mI,bW];show BI P SI ts (.slice (some (n,0)) l.length cap) n0 o0 L.length s=_;unfold BI;rw[aL.2 dI,dz,h0,bW];simp only[hu];rw[hi,bW,hz,dz,dm,dz];have hr:tK SI n0 o0 (L.length*i.size) s= .ok (L.map enc).flatten s:=by
  rcases Nat.eq_zero_or_pos (L.length*i.size) with RQ|RQ
  ·rw[List.eq_nil_of_length_eq_zero<|(o5 L).trans RQ,RQ];rfl
  rw[show tK SI n0 o0 (L.length*i.size)=(SI (.row n0 o0<|L.length*i.size) []).bind fun x=>match x with
   | .agg l=>aF (Nat.beq l.length<|L.length*i.size) <| M.pure l
   |_=>fail from by obtain⟨m,hm⟩:∃m,L.length*i.size=m+1:=⟨L.length*i.size - 1,by omega⟩;rw[hm];rfl]
  rw[M.bN<|eN s];show aF (Nat.beq (L.map enc).flatten.length<|L.length*i.size) (M.pure (L.map enc).flatten) s=_;rw[o5,eA.2 rfl,dz];rfl
 rw[M.bN hr,M.bN a3,d4];simp
theorem agH{c:α}{m:Nat}(hx:aK t x=some (.slice (some (n,0)) l.length<|.ar l.length i.size))(hy:aK t y=some (.slice (some (m,0)) 1<|.known 1))(h0:ts[0]? =some ty)(hu:P.underlying ty=some (.slice e))(hi:P.info? e=some i)(hz:and (tJ i) (pP P ts[1]?)=true)(hn:s.h.get n=some (aI enc l))(hm:s.h.get m=some (.cells (enc c).length (Tr.fill (enc c) 0 .nil) []))(cY:(Nat.blt n s.nx&&(Nat.blt m s.nx&&Nat.blt s.nx top))=true)(yG:∀x:α,(enc x).length=i.size/\(enc x).all AV.cj=true)(Fk:0<i.size)(hb:Nat.beq i.bytes 0=false)(ur:2*(l.length+1)*i.bytes+4096*i.bytes<=room)(lv:(l.length+1)*i.size<=top):
 ∃rd wr,(∀k∈rd,k=n\/k=m\/k∈s.rd)/\(∀k∈wr,k=n\/k∈s.wr)/\(s.mark=0->rd=s.rd/\wr=s.wr)/\(dO P<|.call ⟨.builtin .append, #[x,y],ts⟩).val SI t s= .ok (.slice (some (s.nx,0)) (l++[c]).length<|.ar (l++[c]).length i.size) ⟨(s.h.put n none).put s.nx<|some<|aI enc<|l++[c],s.nx+1,s.mark,rd,wr⟩:=by
 obtain⟨fC,cY⟩:=and_true.1 cY;obtain⟨eD,Db⟩:=and_true.1 cY;have aj0:=(blt_eq _ _).mp fC;have CC:=(blt_eq _ _).mp Db;have o5:∀l:List α,(l.map enc).flatten.length=l.length*i.size:=fun l=>by
  have:=tD (K:=i.size) (l:=l.map enc) fun c hc=>by obtain⟨a,_,rfl⟩:=List.mem_map.1 hc;exact(yG a).1
  rw[this,List.length_map]
 have wt:∀l:List α,(l.map enc).flatten.all AV.cj=true:=by
  intro l;induction l with
  |nil=>rfl
  |cons x l ih=>simp only[List.map_cons,List.flatten_cons,List.all_append,ih,(yG x).2,Bool.and_true]
 have Yb:(l.length+1)*i.size=l.length*i.size+i.size:=by rw[Nat.add_mul,Nat.one_mul]
 have cF:(l.map enc).flatten.length<=top:=by rw[o5];omega
 have qZ:∀{k q:Nat} {s':AS},k∈(bc q s').rd->k=q\/k∈s'.rd:=by
  intro k q s' h;unfold bc at h;cases z:Nat.blt q s'.mark with
  |false=>rw[z] at h;exact .inr h
  |true=>rw[z] at h;rcases List.mem_cons.1 h with h|h;exact .inl h;exact .inr h
 have mm:∀(q:Nat) (s':AS),s'.mark=0->bc q s'=s':=by intro q s' h;unfold bc;rw[h,show Nat.blt q 0=false from by cases z:Nat.blt q 0 with|false=>rfl|true=>have:=(blt_eq _ _).mp z;omega]
 have Xy:∀(q:Nat) (s':AS),bc q s'=⟨s'.h,s'.nx,s'.mark,(bc q s').rd,s'.wr⟩:=by intro q s';unfold bc;cases Nat.blt q s'.mark<;>rfl
 have hf:firstCells i.size 1 (.slice (some (m,0)) 1<|.known 1) s= .ok (enc c) (bc m s):=by rw[M9 jI,Nat.one_mul];have hr:=DH (n:=m) (off:=0) (k:=i.size) (l:=enc c) (s:=s) eD hm (by rw[(yG c).1];omega) Fk (by rw[(yG c).1];omega);rw[hr,List.drop_zero, ←(yG c).1,List.take_length]
 let s1:AS:=⟨s.h,s.nx,s.mark,(bc m s).rd,s.wr⟩;have iZ:bc m s=s1:=Xy m s;have Qp:∃rd,(∀k∈rd,k=n\/k∈s1.rd)/\(s.mark=0->rd=s1.rd)/\jd n 0 (l.length*i.size) s1= .ok (l.map enc).flatten ⟨s.h,s.nx,s.mark,rd,s.wr⟩:=by
  cases hk:l.length*i.size with
  |zero=>have:(l.map enc).flatten=[]:=List.eq_nil_of_length_eq_zero (by rw[o5,hk]);rw[this];exact⟨s1.rd,fun k h=>.inr h,fun _=>rfl,rfl⟩
  |succ k=>have hr:=DH (n:=n) (off:=0) (k:=k+1) (l:=(l.map enc).flatten) (s:=s1) fC hn cF (Nat.succ_pos _) (by rw[o5,hk];omega);rw[List.drop_zero, ←hk, ←o5,List.take_length] at hr;rw[←hk, ←o5];exact⟨(bc n s1).rd,fun k h=>qZ h,fun AQ=>by rw[mm n s1 AQ],hr.trans<|congrArg _<|Xy n s1⟩
 obtain⟨gu,a1,a2,a3⟩:=Qp;have qe:∃rd wr,(∀k∈rd,k=n\/k∈s1.rd)/\(∀k∈wr,k=n\/k∈s.wr)/\(s.mark=0->rd=s1.rd/\wr=s.wr)/\
  ((bw n).bind fun ob=>aF ob.zJ <| (bM n none).bind fun _=>grown i.size i.bytes (l.length+1) (l.map enc).flatten<|enc c) ⟨s.h,s.nx,s.mark,gu,s.wr⟩= .ok (.slice (some (s.nx,0)) (l.length+1)<|.ar (l.length+1) i.size) ⟨(s.h.put n none).put s.nx<|some<|aI enc<|l++[c],s.nx+1,s.mark,rd,wr⟩:=by
  rw[M.bN<|lW (s:=⟨s.h,s.nx,s.mark,gu,s.wr⟩) fC hn];rw[show(aI enc l).zJ=true from rfl,dz];obtain⟨b1,b2,b3⟩:=fN n ⟨s.h,s.nx,s.mark,gu,s.wr⟩;rw[M.bN<|xN (o:=none) (p:=aI enc l) (s:=bc n ⟨s.h,s.nx,s.mark,gu,s.wr⟩) (by rw[b2];exact fC) (by rw[b1];exact hn) rfl (by rw[blt_eq];omega)];have QS:(l.map enc).flatten++enc c=((l++[c]).map enc).flatten:=by simp
  unfold grown;rw[show(and (Nat.ble (2*(l.length+1)*i.bytes+4096*i.bytes) room)<|not<|Nat.beq i.bytes 0)=true from and_true.2 ⟨aL.2 ur,by rw[hb];rfl⟩,dz,QS];have hw:∃rd wr,(∀k∈rd,k=n\/k∈s1.rd)/\(∀k∈wr,k=n\/k∈s.wr)/\(s.mark=0->rd=s1.rd/\wr=s.wr)/\fB n none (bc n ⟨s.h,s.nx,s.mark,gu,s.wr⟩)=⟨s.h.put n none,s.nx,s.mark,rd,wr⟩:=by
   unfold fB bc;cases q:Nat.blt n s.mark with
   |false=>refine⟨gu,s.wr,a1,fun k h=>.inr h,fun hm=>⟨a2 hm,rfl⟩,?_⟩;show(@Bool.rec (fun _=>AS) _ _<|Nat.blt n s.mark)=_;rw[q]
   |true=>
    refine⟨n::n::gu,n::s.wr,?_,?_,fun hm=>?_,?_⟩
    ·intro k h;rcases List.mem_cons.1 h with h|h
     ·exact .inl h
     ·rcases List.mem_cons.1 h with h|h
      ·exact .inl h
      ·exact a1 k h
    ·intro k h;rcases List.mem_cons.1 h with h|h
     ·exact .inl h
     ·exact .inr h
    ·rw[hm] at q;have:=(blt_eq _ _).mp q;omega
    ·show(@Bool.rec (fun _=>AS) _ _<|Nat.blt n s.mark)=_;rw[q]
  obtain⟨rd,wr,c1,c2,c3,c4⟩:=hw;rw[c4];refine⟨rd,wr,c1,c2,c3,?_⟩;have wv:=JC (s:=⟨s.h.put n none,s.nx,s.mark,rd,wr⟩) (l:=((l++[c]).map enc).flatten) (by rw[o5];simpa using lv) (wt _) CC;exact(M.bN wv).trans rfl
 obtain⟨rd,wr,d1,d2,d3,d4⟩:=qe;refine⟨rd,wr,fun k h=>?_,d2,fun h=>⟨(d3 h).1.trans (by show(bc m s).rd=s.rd;rw[mm m s h]),(d3 h).2⟩,?_⟩
 ·rcases d1 k h with h|h
  ·exact .inl h
  ·exact .inr<|qZ h
 show oz P .append ts [x,y] SI t s=_;unfold oz;have mI:jQ (aK t) [x,y]=some [.slice (some (n,0)) l.length<|.ar l.length i.size,.slice (some (m,0)) 1<|.known 1]:=by simp only[jQ,hx,hy]
 rw[mI,bW];show pL P ts (.slice (some (n,0)) l.length<|.ar l.length i.size) (.slice (some (m,0)) 1<|.known 1) s=_;unfold pL;rw[h0,bW];simp only[hu];rw[hi,bW,hz,dz];show((firstCells i.size 1<|.slice (some (m,0)) 1<|.known 1).bind fun new=>aF (Nat.beq new.length<|1*i.size) <| rM i.size i.bytes (some (n,0)) l.length (.ar l.length i.size) 1 new) s=_;rw[M.bN hf,(yG c).1,Nat.one_mul,eA.2 rfl,dz,iZ];show(aF (Nat.beq i.size i.size) <| match Nat.ble (l.length+1) l.length with
  |true=>match (some (n,0):Option<|Nat×Nat) with
   |some (m,o)=>(xz m (o+l.length*i.size)<|enc c).bind fun _=>M.pure (.slice (some (m,o)) (l.length+1)<|.ar l.length i.size)
   |none=>fail
  |false=>match (some (n,0):Option<|Nat×Nat) with
   |some (m,0)=>(jd m 0<|l.length*i.size).bind fun dG=>(bw m).bind fun o=>aF o.zJ <| (bM m none).bind fun _=>grown i.size i.bytes (l.length+1) dG (enc c)
   |_=>fail) s1=_
 have HY:Nat.ble (l.length+1) l.length=false:=by
  cases q:Nat.ble (l.length+1) l.length with
  |false=>rfl
  |true=>have:=aL.1 q;omega
 rw[eA.2 rfl,dz];simp only[HY];rw[M.bN a3,d4];simp
end
end Go.Rn
namespace Go.Rn
open Go.RowKit
variable {x i:Operand} {ty kt et:TypeId} {n:Nat} {k:Int}
section
variable {P:Program} {s s1:AS} {SI:aO} {t:Tr AV}
noncomputable def bL(m:List<|Int×Int):ae:=.lF<|dh m
def lM:List (Int×Int)->Int->Bool
 |[],_=>false
 |p::l,k=>if p.1=k then true else lM l k
theorem U2(k:Int):∀(m:List<|Int×Int) (i:Nat),(lM m k=false/\kZ (.int .i64 k) (dh m) i=some none)\/∃j,lM m k=true/\kZ (.int .i64 k) (dh m) i=some (some (j,.int .i64<|getM m k))
 |[],i=>.inl ⟨rfl,rfl⟩
 |p::l,i=>by
  have hf:kZ (.int .i64 k) (dh<|p::l) i=(match some (k == p.1) with|none=>none|some true=>some (some (i,.int .i64 p.2))|some false=>kZ (.int .i64 k) (dh l)<|i+1):=rfl;by_cases e:p.1=k
  ·refine .inr ⟨i,by unfold lM;rw[if_pos e],?_⟩;rw[hf,show(k == p.1)=true by simp[e],show getM (p::l) k=p.2 by simp[getM,e]]
  ·have cz:(k == p.1)=false:=by simp;exact fun q=>e q.symm
   rw[hf,cz,show lM (p::l) k=lM l k by simp[lM,e],show getM (p::l) k=getM l k by simp[getM,e]];exact U2 k l<|i+1
theorem agI{m:List<|Int×Int}(hx:aK t x=some (.map<|some n))(hi:aK t i=some (.int .i64 k))(hu:P.underlying ty=some (.map kt et))(hk:oT P 10000 kt (.int .i64 k)=true)(hp:plainKey P kt (.int .i64 k)=true)(hz:qK P et=some (.int .i64 0))(hn:s.h.get n=some (bL m))(cY:Nat.blt n s.nx=true):(dO P<|.lookup ty x i true).val SI t s= .ok (.tuple [.int .i64 (if lM m k=true then getM m k else 0),.bool<|lM m k]) (bc n s):=by
 show xM P ty x i true SI t s=_;unfold xM;rw[hx,hi,bW,bW];unfold zL;simp only[hu];have hf:zS P kt (.int .i64 k) (.map<|some n) s= .ok (dh m) (bc n s):=by
  show((bw n).bind fun o=>match o with
   | .map es _=>M.pure es
   | .lF es=>aF (or (plainKey P kt<|.int .i64 k)<|short es) <| M.pure es
   |_=>fail) s=_
  rw[M.bN<|lW cY hn];show(aF (or (plainKey P kt<|.int .i64 k)<|short<|dh m) <| M.pure<|dh m) (bc n s)=_;rw[hp,show(or true<|short<|dh m)=true from rfl,dz];rfl
 rw[M.bN hf,hk,dz];have RR:findKey P kt (.int .i64 k) (dh m)=kZ (.int .i64 k) (dh m) 0:=by unfold findKey;simp only[uP,hp]
 rw[RR];rcases U2 k m 0 with⟨h1,h2⟩|⟨j,h1,h2⟩
 ·rw[h2,bW,h1];show(aC (qK P et) fun z=>M.pure<|AO true z false) (bc n s)=_;rw[hz,bW];rfl
 ·rw[h2,bW,h1];rfl
theorem agJ{y:Operand}{v:Int}{m:List<|Int×Int}(hx:aK t x=some (.map<|some n))(hi:aK t i=some (.int .i64 k))(hy:aK t y=some (.int .i64 v))(hu:P.underlying ty=some (.map kt et))(hk:oT P 10000 kt (.int .i64 k)=true)(hp:plainKey P kt (.int .i64 k)=true)(hn:s.h.get n=some (bL m))(q1:Nat.blt n s.nx=true)(q2:Nat.blt n top=true):(dO P<|.mapUpdate ty x i y).val SI t s= .ok (.tuple []) (fB n (some<|bL<|gD m k v)<|bc n s):=by
 show qF P ty x i y SI t s=_;unfold qF;rw[hx,hi,hy,bW,bW,bW];have w:∀o:ae,bM n (some o) (bc n s)= .ok () (fB n (some o)<|bc n s):=fun o=>xN (by rw[(fN n s).2.1];exact q1) (by rw[(fN n s).1];exact hn) rfl q2;have aj1:xW P ty (.map<|some n) (.int .i64 k) (.int .i64 v) s= .ok () (fB n (some<|bL<|gD m k v)<|bc n s):=by
  unfold xW;simp only[hu];rw[M.bN<|lW q1 hn];show(aF (and (plainKey P kt<|.int .i64 k)<|oT P 10000 kt<|.int .i64 k) <| aC (findKey P kt (.int .i64 k)<|dh m) fun f=>Bv n (.int .i64 k) (.int .i64 v) (dh m) f) (bc n s)=_;rw[hk,hp,show(and true true)=true from rfl,dz];have RR:findKey P kt (.int .i64 k) (dh m)=kZ (.int .i64 k) (dh m) 0:=by unfold findKey;simp only[uP,hp]
  rw[RR];rcases UX k m 0 with⟨h1,_,h3⟩|⟨j,z,h1,_,h3,h4⟩
  ·rw[h1,bW];show bM n (some<|.lF<|dh m++[(.int .i64 k,.int .i64 v)]) (bc n s)=_;rw[w,h3 v];simp only[bL,dh,List.map_append,List.map_cons,List.map_nil]
  ·rw[h1,bW];show bM n (some<|.lF<|putAt (dh m) (0+j) (.int .i64 k)<|.int .i64 v) (bc n s)=_;rw[Nat.zero_add,w,(h4 v).1];rfl
 rw[M.bN aj1];rfl
end
end Go.Rn
namespace Go.Rn
open Go.RowKit
variable {n k:Nat} {l L2 L1:List AV} {y x:Operand} {ty e:TypeId} {ts:Array TypeId} {i:TypeInfo} {sq:cM}
section
variable {P:Program} {s:AS} {SI:aO} {t:Tr AV}
theorem Uj{s:AS}(h1:Nat.blt n s.nx=true)(h2:s.h.get n=some (.cells l.length (Tr.fill l 0 .nil) []))(hl:l.length<=top)(hk:k<=l.length):
 ∃rd,(∀x∈rd,x=n\/x∈s.rd)/\(s.mark=0->rd=s.rd)/\jd n 0 k s= .ok (l.take k) ⟨s.h,s.nx,s.mark,rd,s.wr⟩:=by
 cases k with
 |zero=>exact⟨s.rd,fun x h=>.inr h,fun _=>rfl,rfl⟩
 |succ k=>
  have hr:=DH (n:=n) (off:=0) (k:=k+1) (l:=l) (s:=s) h1 h2 hl (Nat.succ_pos _) ak;rw[List.drop_zero] at hr;refine⟨(bc n s).rd,?_,fun hm=>?_,?_⟩
  ·intro k h;unfold bc at h;cases q:Nat.blt n s.mark with
   |false=>rw[q] at h;exact .inr h
   |true=>rw[q] at h;rcases List.mem_cons.1 h with h|h;exact .inl h;exact .inr h
  ·unfold bc;rw[hm,show Nat.blt n 0=false from by cases q:Nat.blt n 0 with|false=>rfl|true=>have:=(blt_eq _ _).mp q;omega]
  ·rw[hr];congr 1;unfold bc;cases Nat.blt n s.mark<;>rfl
theorem agK{m len:Nat}(hx:aK t x=some (.slice (some (n,0)) len<|.known len))(hy:aK t y=some (.slice (some (m,0)) k sq))(h0:ts[0]? =some ty)(hu:P.underlying ty=some (.slice e))(hi:P.info? e=some i)(hz:and (tJ i) (pP P ts[1]?)=true)(hk:1<=k)(hn:s.h.get n=some (.cells L1.length (Tr.fill L1 0 .nil) []))(hm:s.h.get m=some (.cells L2.length (Tr.fill L2 0 .nil) []))(Ml:L1.length<=top)(yW:L2.length<=top)(h1:len*i.size<=L1.length)(h2:k*i.size<=L2.length)(he:L1.take (len*i.size)++L2.take (k*i.size)=l)(cY:(Nat.blt n s.nx&&(Nat.blt m s.nx&&Nat.blt s.nx top))=true)(wt:l.all AV.cj=true)(hb:Nat.beq i.bytes 0=false)(ur:2*(len+k)*i.bytes+4096*i.bytes<=room)(lv:l.length<=top):
 ∃rd wr,(∀q∈rd,q=n\/q=m\/q∈s.rd)/\(∀q∈wr,q∈s.wr)/\(s.mark=0->rd=s.rd/\wr=s.wr)/\(dO P<|.call ⟨.builtin .append, #[x,y],ts⟩).val SI t s= .ok (.slice (some (s.nx,0)) (len+k)<|.ar (len+k) i.size) ⟨s.h.put s.nx<|some<|.cells l.length (Tr.fill l 0 .nil) [],s.nx+1,s.mark,rd,wr⟩:=by
 obtain⟨fC,cY⟩:=and_true.1 cY;obtain⟨eD,Db⟩:=and_true.1 cY;have CC:=(blt_eq _ _).mp Db;have hf:firstCells i.size k (.slice (some (m,0)) k sq) s=jd m 0 (k*i.size) s:=by
  cases k with
  |zero=>omega
  |succ k=>cases sq<;>rfl
 obtain⟨gu,a1,a2,a3⟩:=Uj eD hm yW h2;obtain⟨AP,b1,b2,b3⟩:=Uj (s:=⟨s.h,s.nx,s.mark,gu,s.wr⟩) fC hn Ml h1;refine⟨AP,s.wr,fun q hq=>?_,fun q hq=>hq,fun AQ=>⟨(b2 AQ).trans<|a2 AQ,rfl⟩,?_⟩
 ·rcases b1 q hq with h|h
  ·exact .inl h
  ·exact .inr<|a1 q h
 show oz P .append ts [x,y] SI t s=_;unfold oz;have mI:jQ (aK t) [x,y]=some [.slice (some (n,0)) len<|.known len,.slice (some (m,0)) k sq]:=by simp only[jQ,hx,hy]
 rw[mI,bW];show pL P ts (.slice (some (n,0)) len<|.known len) (.slice (some (m,0)) k sq) s=_;unfold pL;rw[h0,bW];simp only[hu];rw[hi,bW,hz,dz];show(aC (some k) fun Dc=>(firstCells i.size Dc<|.slice (some (m,0)) k sq).bind fun new=>aF (Nat.beq new.length<|Dc*i.size) <| rM i.size i.bytes (some (n,0)) len (.known len) Dc new) s=_;rw[bW,M.bN<|hf.trans a3];have Qq:(L2.take<|k*i.size).length=k*i.size:=by rw[List.length_take];omega
 rw[Qq,eA.2 rfl,dz];unfold rM;have HY:Nat.ble (len+k) len=false:=by cases q:Nat.ble (len+k) len with|false=>rfl|true=>have:=aL.1 q;omega
 simp only[HY];have RT:firstCells i.size len (.slice (some (n,0)) len<|.known len) ⟨s.h,s.nx,s.mark,gu,s.wr⟩=jd n 0 (len*i.size) ⟨s.h,s.nx,s.mark,gu,s.wr⟩:=by cases len<;>rfl
 rw[M.bN<|RT.trans b3];unfold grown;rw[show(and (Nat.ble (2*(len+k)*i.bytes+4096*i.bytes) room)<|not<|Nat.beq i.bytes 0)=true from and_true.2 ⟨aL.2 ur,by rw[hb];rfl⟩,dz,he];have wv:=JC (s:=⟨s.h,s.nx,s.mark,AP,s.wr⟩) (l:=l) lv wt CC;exact(M.bN wv).trans rfl
noncomputable def ph(o:ae)(s:AS):AS:=⟨s.h.put s.nx<|some o,s.nx+1,s.mark,s.rd,s.wr⟩
theorem agL{m len:Nat}(hx:aK t x=some (.slice (some (n,0)) len<|.known len))(hy:aK t y=some (.slice (some (m,0)) k sq))(h0:ts[0]? =some ty)(hu:P.underlying ty=some (.slice e))(hi:P.info? e=some i)(hz:and (tJ i) (pP P ts[1]?)=true)(hlen:1<=len)(hk:1<=k)(hs:1<=i.size)(hn:s.h.get n=some (.cells L1.length (Tr.fill L1 0 .nil) []))(hm:s.h.get m=some (.cells L2.length (Tr.fill L2 0 .nil) []))(Ml:L1.length<=top)(yW:L2.length<=top)(h1:len*i.size<=L1.length)(h2:k*i.size<=L2.length)(he:L1.take (len*i.size)++L2.take (k*i.size)=l)(cY:(Nat.blt n s.nx&&(Nat.blt m s.nx&&Nat.blt s.nx top))=true)(wt:l.all AV.cj=true)(hb:Nat.beq i.bytes 0=false)(ur:2*(len+k)*i.bytes+4096*i.bytes<=room)(lv:l.length<=top):
 (dO P<|.call ⟨.builtin .append, #[x,y],ts⟩).val SI t s= .ok (.slice (some (s.nx,0)) (len+k)<|.ar (len+k) i.size) (ph (.cells l.length (Tr.fill l 0 .nil) [])<|bc n<|bc m s):=by
 obtain⟨fC,cY⟩:=and_true.1 cY;obtain⟨eD,Db⟩:=and_true.1 cY;have CC:=(blt_eq _ _).mp Db;have hf:firstCells i.size k (.slice (some (m,0)) k sq) s=jd m 0 (k*i.size) s:=by
  cases k with
  |zero=>omega
  |succ k=>cases sq<;>rfl
 have p1:0<k*i.size:=Nat.mul_pos ak ak;have p2:0<len*i.size:=Nat.mul_pos ak ak;have a3:=DH (n:=m) (off:=0) (k:=k*i.size) (l:=L2) (s:=s) eD hm yW p1 ak;have b3:=DH (n:=n) (off:=0) (k:=len*i.size) (l:=L1) (s:=bc m s) (by rw[(fN m s).2.1];exact fC) (by rw[(fN m s).1];exact hn) Ml p2 ak;rw[List.drop_zero] at a3 b3;show oz P .append ts [x,y] SI t s=_;unfold oz;have mI:jQ (aK t) [x,y]=some [.slice (some (n,0)) len<|.known len,.slice (some (m,0)) k sq]:=by simp only[jQ,hx,hy]
 rw[mI,bW];show pL P ts (.slice (some (n,0)) len<|.known len) (.slice (some (m,0)) k sq) s=_;unfold pL;rw[h0,bW];simp only[hu];rw[hi,bW,hz,dz];show(aC (some k) fun Dc=>(firstCells i.size Dc<|.slice (some (m,0)) k sq).bind fun new=>aF (Nat.beq new.length<|Dc*i.size) <| rM i.size i.bytes (some (n,0)) len (.known len) Dc new) s=_;rw[bW,M.bN<|hf.trans a3];have Qq:(L2.take<|k*i.size).length=k*i.size:=by rw[List.length_take];omega
 rw[Qq,eA.2 rfl,dz];unfold rM;have HY:Nat.ble (len+k) len=false:=by cases q:Nat.ble (len+k) len with|false=>rfl|true=>have:=aL.1 q;omega
 simp only[HY];have RT:firstCells i.size len (.slice (some (n,0)) len<|.known len) (bc m s)=jd n 0 (len*i.size) (bc m s):=by
  cases len with
  |zero=>omega
  |succ k=>rfl
 rw[M.bN<|RT.trans b3];unfold grown;rw[show(and (Nat.ble (2*(len+k)*i.bytes+4096*i.bytes) room)<|not<|Nat.beq i.bytes 0)=true from and_true.2 ⟨aL.2 ur,by rw[hb];rfl⟩,dz,he];have cJ:(bc n<|bc m s).nx=s.nx:=by rw[(fN n _).2.1,(fN m _).2.1]
 have wv:=JC (s:=bc n<|bc m s) (l:=l) lv wt (by rw[cJ];exact CC);rw[cJ] at wv;refine(M.bN wv).trans ?_;unfold ph;rw[cJ];rfl
end
end Go.Rn
namespace Go.Rn
open Go.RowKit
variable {n k o U off:Nat} {v:AV} {x:TypeId×Operand×Operand} {cs:List AV} {α:Type} {B:aJ} {rs:List ResultVar} {ik:IntKind} {cap:cM} {ag b:Bool} {a:Nat×Nat} {T A c X:Prop} {x':dC} {ty:TypeId} {sp:Sp} {l:List<|Nat×AV} {Q:Tr AV->List Nat->Option Code->AS->Prop} {F:Nat->Option (List AV)}
noncomputable section
inductive Pl where
 |no
 |st (k:Nat) (p:Pl)
 |rg (p:Pl)
 |go (n:Nat) (p:Pl)
 |en (p:Pl)
 |fk (p q:Pl)
 |vl (v:AV) (p:Pl)
 |kn (v:AV) (p:Pl)
 |kp (c:Prop) (d:Decidable c) (p q:Pl)
 |cu (v:AV) (s2:AS) (p:Pl)
 |cg (v:AV) (F:AS->AS) (Q:AS->Prop) (p:Pl)
 |ap (α:Type) (enc:α->List AV) (l:List α) (c:α) (p:Pl)
 |al (α:Type) (enc:α->List AV) (l L:List α) (p:Pl)
 |sf (lo hi:Int) (p:Pl)
 |ix (p:Pl)
 |eF (p:Pl)
 |ld (cs:List AV) (p:Pl)
 |Zj (b:Bool) (p q:Pl)
 |eG (cs:List AV) (p:Pl)
 |sQ (o:ae) (p:Pl)
 |rm (p:Pl)
 |ls (l:List<|Nat×AV) (o:List<|Nat×Option ae) (nx:Nat) (p:Pl)
 |rn (l0:List<|Nat×AV) (o0:List<|Nat×Option ae) (l:List<|Nat×AV) (o:List<|Nat×Option ae) (bF nx:Nat) (p:Pl)
 |bk (l:List<|Nat×AV) (o:List<|Nat×Option ae) (nx:Nat) (p:Pl)
 |cy (v:AV) (s2:AS) (p:Pl)
 |Dd (p:Pl)
 |kt (y v':AV) (p:Pl)
 |nt (v:Option AV) (res:AV->AV) (p:Pl)
 |Zk (m:List<|Int×Int) (p q:Pl)
 |My (m:List<|Int×Int) (p:Pl)
 |so (p:Pl)
 |s3 (p:Pl)
 |ao (L1 L2 l:List AV) (p:Pl)
 |an (L1 L2 l:List AV) (p:Pl)
 |il (p:Pl)
 |rt (k:Nat) (p:Pl)
 |cut (p:Pl)
inductive Mz where
 |fr (f nt:Nat) (K:List Item) (t:Tr AV) (s:AS)
 |rg (f nt:Nat) (K:List Item) (ops:Array Oper) (D:Option<|List dC) (i:Nat) (t:Tr AV) (s:AS)
structure Env where
 P:Program
 sp:Sp
 F:Nat->Option (List AV)
 uX:FuncId->Option (List AV->Option AV)
 jn:FuncId->Bool
 ck:AS->Bool
 cs:AS->AS
 lo:Nat
 fg:Bool
 tt:FuncId->Option (Nat×(AV->List AV->Option (AV×AV)))
 tn:FuncId->Option (Nat×(List AV->Option (Option AV×(AV->AV))))
 n0:Nat
def yH(nx:Nat)(l:List<|Nat×AV)(o:List<|Nat×Option ae):Prop:=∀r:Nat->Nat,(∀k,k<nx->r k=k)->(∀k,top<=k->r k=k)->(∀p∈l,bz r p.2 p.2)/\(∀p∈o,∀x,p.2=some x->sk r x x)
def gY(F:Nat->Option (List AV))(lo bF:Nat)(l0:List<|Nat×AV)(o0:List<|Nat×Option ae)(l:List<|Nat×AV)(o:List<|Nat×Option ae)(nx:Nat):Prop:=
 ∃(fz:lL) (r:Nat->Nat),(∀k,k<lo->r k=k)/\(∀k,nx<=k->k<top->bF<=r k/\r k<top)/\(∀k,top<=k->r k=k)/\nx<=top/\(∀p∈l,p.1<top/\∃x,(p.1,x)∈l0/\lH fz r x p.2)/\
  (∀p∈o,p.1<top/\∀y,p.2=some y->r p.1<top/\y.lZ=true/\∃x,(r p.1,some x)∈o0/\fm x y/\fI fz r x y)/\
  (∀p∈o,∀q∈o,p.2≠none->q.2≠none->r p.1=r q.1->p.1=q.1)/\
  (∀p∈fz,p.1<top/\F p.2.1=some p.2.2/\∃N t z,(p.1,some<|.cells N t z)∈o0/\∀i x,p.2.2[i]? =some x->i<N/\cellAt t z i=some x/\x.cj=true/\x.cq=true)/\
  (∀p∈fz,∀q∈o,q.2≠none->r q.1≠p.1)
def Zl(n k:Nat)(v:AV)(s:AS):AS:=fB n (some<|.tok k v)<|bc n s
def nwS(k:Nat)(v:AV)(s:AS):AS:=⟨s.h.put s.nx<|some<|.tok k v,s.nx+1,s.mark,s.rd,s.wr⟩
def Zm(res:AV->AV)(s:AS):Option AV->AV
 |none=>res<|.ptr none
 |some _=>res<|.ptr<|some (s.nx,0)
def Zn(k:Nat)(s:AS):Option AV->AS
 |none=>s
 |some v=>nwS k v s
structure Env.Ok (E:Env):Prop where
 uX:∀g val args v s n,E.uX g=some val->val args=some v->E.ck s=true->bg E.P E.sp E.F (n+1) (.fn g) args s= .ok v (E.cs s)
 tt:∀g q m v rest y v' s n,E.tt g=some q->E.ck s=true->Nat.ble E.n0 m=true->Nat.blt m (E.cs s).nx=true->Nat.blt m top=true->(E.cs s).h.get m=some (.tok q.1 v)->q.2 v rest=some (y,v')->
  bg E.P E.sp E.F (n+1) (.fn g) (.ptr (some (m,0))::rest) s= .ok y (Zl m q.1 v'<|E.cs s)
 tn:∀g q args v res s n,E.tn g=some q->E.ck s=true->Nat.blt (E.cs s).nx top=true->q.2 args=some (v,res)->bg E.P E.sp E.F (n+1) (.fn g) args s= .ok (Zm res (E.cs s) v) (Zn q.1 (E.cs s) v)
 jn:∀g,E.jn g=true->False
def wo(o:Option α)(k:α->Prop):Prop:= @Option.rec α (fun _=>Prop) False k o
def wr(r:R α)(k:α->AS->Prop):Prop:= @R.rec α (fun _=>Prop) False k r
def wb(b:Bool)(k:Prop):Prop:= @Bool.rec (fun _=>Prop) False k b
def Kt:=AV->AS->Pl->Prop
def Ay:=AF->AS->Pl->Prop
def Rec:=Nat->Mz->Pl->List ResultVar->Kt->Ay->Prop
def JO(op:Op):Option<|BinOp×TypeId×Operand×Operand×TypeId:=match op with
 | .binOp o ty x y yt=>some (o,ty,x,y,yt)
 |_=>none
def callParts(op:Op):Option<|Operand×Array Operand×Array TypeId:=match op with
 | .call ⟨.value fo,xs,ts⟩=>some (fo,xs,ts)
 |_=>none
def QT(fi args ca:List AV):List AV:=match fi,ca with
 |[],[]=>args
 |_,_=>fi++args++ca
def QU(v:AV):Option<|FuncId×List AV×List AV:=match v with
 | .func (.func g) fi ca=>some (g,fi,ca)
 |_=>none
def asInt(v:AV):Option<|IntKind×Int:=match v with
 | .int k n=>some (k,n)
 |_=>none
def asSlice(v:AV):Option<|Option (Nat×Nat)×Nat×cM:=match v with
 | .slice a n c=>some (a,n,c)
 |_=>none
def Qr(x:br):Option<|Nat×Nat×List Item×Tr AV:=match x with
 | .go ⟨f,t,nt,K,[],none⟩=>some (f,nt,K,t)
 |_=>none
def Qs(x:br):Option<|AF×Option Code:=match x with
 | .leave fr j=>some (fr,j)
 |_=>none
def Ph(K:List Item):Option<|Array Oper×Bool×List Item:=match K with
 | .code (.region _ ops d)::K=>some (ops,d,K)
 |_=>none
def QV(o:BinOp)(a b:Int):Option Prop:=match o with
 | .lss=>some<|a<b
 | .leq=>some<|a<=b
 | .gtr=>some<|a>b
 | .geq=>some<|a>=b
 | .eql=>some<|a=b
 | .neq=>some<|a≠b
 |_=>none
def iE(D:Option<|List dC)(s:AS):AS:=match D with
 |none=>s
 |some _=>Kv s
def Fl(D:Option<|List dC)(s s1:AS):AS:=match D with
 |none=>s1
 |some _=>EO s s1
def LY(D:Option<|List dC)(i:Nat)(s s1:AS):Option<|List dC:=match D with
 |none=>none
 |some acc=>some<|acc++[LX i s s1]
def Xz(d:Bool):Option<|List dC:=match d with
 |true=>some []
 |false=>none
def QW(P:Program)(SI:aO)(nt:Nat)(ops:Array Oper)(D:Option<|List dC)(i n:Nat)(t:Tr AV):M<|Tr AV×Option (List dC):=match D with
 |none=>fun s=>match pS P SI nt ops i n t s with
  | .ok t s=>.ok (t,none) s
  | .bad=>.bad
 |some acc=>fun s=>match uB P SI nt ops i n t s with
  | .ok x s=>.ok (x.1,some<|acc++x.2) s
  | .bad=>.bad
def Lr(ops:Array Oper)(D:Option<|List dC):Bool:=match D with
 |none=>true
 |some acc=>qL (Region.before ops) acc acc
def EP(n:Nat):Option Nat:=match n with
 |0=>none
 |n+1=>some n
def vJ(t:Tr AV)(op:Op):Option<|FuncId×List AV:=match callParts op with
 |none=>none
 |some x=>match aK t x.1 with
  |none=>none
  |some fv=>match QU fv with
   |none=>none
   |some g=>match jQ (aK t) x.2.1.toList with
    |none=>none
    |some args=>some (g.1,QT g.2.1 args g.2.2)
def Pj(t:Tr AV)(op:Op):Option<|Nat×List AV:=match callParts op with
 |none=>none
 |some x=>match aK t x.1 with
  |some (.yield l)=>(match jQ (aK t) x.2.1.toList with
   |none=>none
   |some args=>some (l,args))
  |_=>none
def GP(op:Op):Option<|TypeId×Operand×Operand:=match op with
 | .indexAddr ty x y=>some (ty,x,y)
 |_=>none
def Gv(op:Op):Option<|TypeId×Operand:=match op with
 | .load ty a=>some (ty,a)
 |_=>none
def NI(op:Op):Option<|TypeId×Operand×Operand:=match op with
 | .store ty a x=>some (ty,a,x)
 |_=>none
def DZ(op:Op):Option<|Operand×Operand×Array TypeId:=match op with
 | .call ⟨.builtin .append,xs,ts⟩=>match xs.toList with
  |[x,y]=>some (x,y,ts)
  |_=>none
 |_=>none
def QX(v:AV):Option<|Nat×Nat×Nat×Nat:=match v with
 | .slice (some (n,0)) len (.ar m k)=>some (n,len,m,k)
 |_=>none
def PN(v:AV):Option Nat:=match v with
 | .slice (some (m,0)) 1 (.known 1)=>some m
 |_=>none
def D0(P:Program)(ts:Array TypeId):Option<|Nat×Nat:=match ts[0]? with
 |some ty=>match P.underlying ty with
  |some (.slice e)=>match P.info? e with
   |some i=>match tJ i&&(pP P ts[1]? && !(Nat.beq i.bytes 0)) with
    |true=>some (i.size,i.bytes)
    |false=>none
   |none=>none
  |_=>none
 |none=>none
def HA(v:AV):Option<|Nat×Nat×Nat:=match v with
 | .ab n o k=>some (n,o,k)
 |_=>none
def PO(v:AV):Option<|Nat×Nat:=match v with
 | .p9 n o=>some (n,o)
 |_=>none
def oM(P:Program)(ty:TypeId):Option Nat:=match P.underlying ty with
 |some (.slice e)=>eC P e
 |_=>none
def Qt(P:Program)(ty:TypeId):Option<|Nat×Nat:=match P.underlying ty with
 |some (.array n e)=>(eC P e).map fun k=>(n,k)
 |_=>none
def cellsOf(o:Option ae)(off k:Nat):Option<|List AV:=match o with
 |some (.cells m t z)=>(match Nat.ble (off+k) m with|true=>lY t z k off|false=>none)
 |_=>none
def v7(o:Option ae)(off:Nat)(l:List AV):Option ae:=match o with
 |some (.cells m t z)=>(match (Nat.ble (off+l.length) m&&(Nat.ble m top&&l.all AV.cj)) with|true=>some (.cells m (Tr.fill l off t) z)|false=>none)
 |_=>none
def cx(F:Nat->Option (List AV))(n off k:Nat):Option<|List AV:=match F n with
 |some l=>(match Nat.ble (off+k) l.length with|true=>some ((l.drop off).take k)|false=>none)
 |none=>none
def yp(k:Nat):Bool:=Nat.blt 0 k
def HZ(ag:Bool)(cs:List AV):Option AV:=match ag with
 |true=>some<|.agg cs
 |false=>one cs
def Hd(P:Program)(ty:TypeId)(ag:Bool):Option Nat:=match ag with
 |true=>eC P ty
 |false=>some 1
def Kw(o:Option ae):Bool:=match o with
 |none=>true
 |some o=>o.lZ
def LZ(dr:Bool)(s:AS)(h:Tr ae)(R W:List Nat):AS:=match dr with
 |true=>⟨h,s.nx+1,s.mark,R,W⟩
 |false=>⟨h,s.nx+1,s.mark,s.rd,s.wr⟩
def yI(v:AV):Option<|Nat×Nat×cM:=match v with
 | .slice (some (n,0)) len cap=>some (n,len,cap)
 |_=>none
def Jq(op:Op):Option<|TypeId×Operand×Option Operand×Option Operand:=match op with
 | .slice ty x lo hi none=>some (ty,x,lo,hi)
 |_=>none
def Ny(op:Op):Option<|TypeId×Operand×Operand×Operand:=match op with
 | .slice ty x none (some hi) (some mx)=>some (ty,x,hi,mx)
 |_=>none
def kept(c:cM):Bool:=match c with
 | .lost=>false
 |_=>true
def vK(t:Tr AV)(o:Option Operand)(d:Int):Option Int:=match o with
 |none=>some d
 |some y=>match aK t y with
  |some (.int _ n)=>some n
  |_=>none
def anE(op:Op):Option<|TypeId×Operand×Operand:=match op with
 | .lookup ty x i false=>some (ty,x,i)
 |_=>none
def NJ(op:Op):Option<|TypeId×Operand×Operand:=match op with
 | .lookup ty x i true=>some (ty,x,i)
 |_=>none
def OL(op:Op):Option<|TypeId×Operand×Operand×Operand:=match op with
 | .mapUpdate ty x i y=>some (ty,x,i,y)
 |_=>none
def Ls(v:AV):Option Nat:=match v with
 | .map (some n)=>some n
 |_=>none
def Kx(P:Program)(ty:TypeId):Option<|TypeId×TypeId:=match P.underlying ty with
 |some (.map k e)=>some (k,e)
 |_=>none
def HB(k:IntKind):Bool:=match k with
 | .i64=>true
 |_=>false
def QY(v:Option AV):Bool:=match v with
 |some (.int .i64 (.ofNat 0))=>true
 |_=>false
def Pk(l:List AV):Option<|Nat×List AV:=match l with
 | .ptr (some (n,0))::r=>some (n,r)
 |_=>none
def Qu(o:Option ae):Option<|Nat×AV:=match o with
 |some (.tok k v)=>some (k,v)
 |_=>none
def Zo(E:Env)(dr:Bool)(ih:Rec)(n:Nat)(nx:AV->AS->Pl->Prop)(s:AS)(t:Tr AV)(op:Op)(p:Pl):Prop:=match p with
 | .fk p q=>wo (JO op) fun x=>wo (aK t x.2.2.1) fun a=>wo (aK t x.2.2.2.1) fun b=>wo (asInt a) fun a=>wo (asInt b) fun b=>wb (decide<|a.1=b.1)<|wo (QV x.1 a.2 b.2) fun c=>(c->nx (.bool true) s p)/\(¬c->nx (.bool false) s q)
 | .vl v p=>wr ((dO E.P op).val (bg E.P E.sp E.F n) t s) fun v' s1=>v'=v/\nx v s1 p
 | .kn v p=>wo (vJ t op) fun x=>wo (EP n) fun _=>wo (E.uX x.1) fun val=>wb (E.ck s)<|val x.2=some v/\nx v (E.cs s) p
 | .kp c d p q=>wo (vJ t op) fun x=>wo (EP n) fun _=>wo (E.uX x.1) fun val=>wb (E.ck s)<|val x.2=some (.bool<|@decide c d)/\(c->nx (.bool true) (E.cs s) p)/\(¬c->nx (.bool false) (E.cs s) q)
 | .cu v s2 p=>wo (vJ t op) fun x=>bg E.P E.sp E.F n (.fn x.1) x.2 s= .ok v s2/\nx v s2 p
 | .cg v F Q p=>wo (vJ t op) fun x=>(∀s,Q s->bg E.P E.sp E.F n (.fn x.1) x.2 s= .ok v (F s))/\Q s/\nx v (F s) p
 | .ap _ enc l c p=>wo (DZ op) fun x=>wo (aK t x.1) fun a=>wo (QX a) fun a=>wo (aK t x.2.1) fun b=>wo (PN b) fun m=>wo (D0 E.P x.2.2) fun i=>wb (Nat.beq a.2.2.2 i.1&&(yp i.1&&(Nat.blt a.1 s.nx&&(Nat.blt m s.nx&&(Nat.blt s.nx top&&(dr||Nat.beq s.mark 0))))))<|a.2.1=l.length/\a.2.2.1=l.length/\s.h.get a.1=some (aI enc l)/\s.h.get m=some (.cells (enc c).length (Tr.fill (enc c) 0 .nil) [])/\(∀x,(enc x).length=i.1/\(enc x).all AV.cj=true)/\2*(l.length+1)*i.2+4096*i.2<=room/\(l.length+1)*i.1<=top/\nx (.slice (some (s.nx,0)) (l++[c]).length<|.ar (l++[c]).length i.1) (LZ dr s ((s.h.put a.1 none).put s.nx<|some<|aI enc<|l++[c]) [a.1,m] [a.1]) p
 | .ix p=>wo (GP op) fun x=>wo (aK t x.2.1) fun a=>wo (asSlice a) fun a=>wo a.1 fun ad=>wo (aK t x.2.2) fun z=>wo (asInt z) fun z=>wo (oM E.P x.1) fun K=>wb (Nat.beq ad.2 0)<|0<=z.2/\z.2<(Int.ofNat a.2.1)/\nx (.ptr<|some (ad.1,z.2.toNat*K)) s p
 | .eF p=>wo (GP op) fun x=>wo (aK t x.2.1) fun a=>wo (HA a) fun a=>wo (aK t x.2.2) fun z=>wo (asInt z) fun z=>wo (oM E.P x.1) fun K=>0<=z.2/\z.2<(Int.ofNat a.2.2)/\nx (.p9 a.1<|a.2.1+z.2.toNat*K) s p
 | .ld cs p=>wo (Gv op) fun x=>wo (aK t x.2) fun a=>wo (addrOf a) fun a=>wo (qV E.P x.1) fun ag=>wo (Hd E.P x.1 ag) fun k=>wb (yp k)<|wb (Nat.blt a.1 s.nx)<|wo (HZ ag cs) fun v=>cellsOf (s.h.get a.1) a.2 k=some cs/\nx v (bc a.1 s) p
 | .Zj b p q=>wo (Gv op) fun x=>wo (aK t x.2) fun a=>wo (addrOf a) fun a=>wo (qV E.P x.1) fun ag=>wb (!ag)<|wb (Nat.blt a.1 s.nx)<|cellsOf (s.h.get a.1) a.2 1=some [.bool b]/\(b=true->nx (.bool true) (bc a.1 s) p)/\(b=false->nx (.bool false) (bc a.1 s) q)
 | .eG cs p=>wo (Gv op) fun x=>wo (aK t x.2) fun a=>wo (PO a) fun a=>wo (qV E.P x.1) fun ag=>wo (eC E.P x.1) fun _=>wo (Hd E.P x.1 ag) fun k=>wo (HZ ag cs) fun v=>top<=a.1/\cx E.F a.1 a.2 k=some cs/\nx v s p
 | .sQ o p=>wo (NI op) fun x=>wo (aK t x.2.1) fun a=>wo (addrOf a) fun a=>wo (aK t x.2.2) fun v=>wo (eC E.P x.1) fun k=>wb (Nat.beq v.cells.length k)<|wb (yp k)<|wb (Nat.blt a.1 s.nx)<|wb (Nat.blt a.1 top)<|v7 (s.h.get a.1) a.2 v.cells=some o/\nx nj (fB a.1 (some o)<|bc a.1 s) p
 | .rm p=>wo (JO op) fun x=>wb (match x.1 with| .rem=>true|_=>false)<|wo (aK t x.2.2.1) fun a=>wo (aK t x.2.2.2.1) fun b=>wo (asInt a) fun a=>wo (asInt b) fun b=>wb (decide<|a.1=b.1)<|b.2≠0/\nx (.int a.1<|Int.tmod a.2 b.2) s p
 | .al _ enc l L p=>wo (DZ op) fun x=>wo (aK t x.1) fun a=>wo (yI a) fun a=>wo (aK t x.2.1) fun b=>wo (HA b) fun b=>wo (D0 E.P x.2.2) fun i=>wb (Qf i.1 a.2.1 a.2.2&&(Nat.blt a.1 s.nx&&(Nat.blt s.nx top&&(dr||Nat.beq s.mark 0))))<|a.2.1=l.length/\s.h.get a.1=some (aI enc l)/\top<=b.1/\cx E.F b.1 b.2.1 (b.2.2*i.1)=some (L.map enc).flatten/\b.2.2=L.length/\(∀x,(enc x).length=i.1/\(enc x).all AV.cj=true)/\2*(l.length+L.length)*i.2+4096*i.2<=room/\(l.length+L.length)*i.1<=top/\nx (.slice (some (s.nx,0)) (l++L).length<|.ar (l++L).length i.1) (LZ dr s ((s.h.put a.1 none).put s.nx<|some<|aI enc<|l++L) [a.1] [a.1]) p
 | .sf lo hi p=>wo (Jq op) fun x=>wo (aK t x.2.1) fun a=>wo (HA a) fun a=>wo (oM E.P x.1) fun K=>wo (vK t x.2.2.1 0) fun mL=>wo (vK t x.2.2.2<|Int.ofNat a.2.2) fun iI=>mL=lo/\iI=hi/\top<=a.1/\0<=lo/\lo<=hi/\hi<=(Int.ofNat a.2.2)/\nx (.ab a.1 (a.2.1+lo.toNat*K)<|hi.toNat - lo.toNat) s p
 | .cy v s2 p=>wo (Pj t op) fun x=>bg E.P E.sp E.F n (.round x.1) x.2 s= .ok v s2/\nx v s2 p
 | .Dd p=>wo (GP op) fun x=>wo (aK t x.2.1) fun a=>wo (addrOf a) fun a=>wo (aK t x.2.2) fun z=>wo (asInt z) fun z=>wo (Qt E.P x.1) fun K=>0<=z.2/\z.2<(Int.ofNat K.1)/\nx (.ptr<|some (a.1,a.2+z.2.toNat*K.2)) s p
 | .kt y v' p=>wo (vJ t op) fun x=>wo (EP n) fun _=>wo (E.tt x.1) fun q=>wo (Pk x.2) fun z=>wo (Qu<|(E.cs s).h.get z.1) fun u=>wb (E.ck s&&(Nat.beq q.1 u.1&&(Nat.ble E.n0 z.1&&(Nat.blt z.1 (E.cs s).nx&&Nat.blt z.1 top))))<|q.2 u.2 z.2=some (y,v')/\nx y (Zl z.1 q.1 v'<|E.cs s) p
 | .nt v res p=>wo (vJ t op) fun x=>wo (EP n) fun _=>wo (E.tn x.1) fun q=>wb (E.ck s&&Nat.blt (E.cs s).nx top)<|q.2 x.2=some (v,res)/\nx (Zm res (E.cs s) v) (Zn q.1 (E.cs s) v) p
 | .Zk m p q=>wo (NJ op) fun x=>wo (aK t x.2.1) fun a=>wo (Ls a) fun n=>wo (aK t x.2.2) fun i=>wo (asInt i) fun i=>wo (Kx E.P x.1) fun y=>wb (oT E.P 10000 y.1 (.int .i64 i.2)&&(plainKey E.P y.1 (.int .i64 i.2)&&(HB i.1&&(QY (qK E.P y.2)&&Nat.blt n s.nx))))<|s.h.get n=some (bL m)/\(lM m i.2=true->nx (.tuple [.int .i64<|getM m i.2,.bool true]) (bc n s) p)/\(lM m i.2=false->nx (.tuple [.int .i64 0,.bool false]) (bc n s) q)
 | .My m p=>wo (OL op) fun x=>wo (aK t x.2.1) fun a=>wo (Ls a) fun n=>wo (aK t x.2.2.1) fun i=>wo (asInt i) fun i=>wo (aK t x.2.2.2) fun v=>wo (asInt v) fun v=>wo (Kx E.P x.1) fun y=>wb (oT E.P 10000 y.1 (.int .i64 i.2)&&(plainKey E.P y.1 (.int .i64 i.2)&&(HB i.1&&(HB v.1&&(Nat.blt n s.nx&&Nat.blt n top)))))<|s.h.get n=some (bL m)/\nx (.tuple []) (fB n (some<|bL<|gD m i.2 v.2)<|bc n s) p
 | .so p=>wo (Jq op) fun x=>wo (aK t x.2.1) fun a=>wo (yI a) fun a=>wo (oM E.P x.1) fun _=>wo (vK t x.2.2.1 0) fun lo=>wo (vK t x.2.2.2<|Int.ofNat a.2.1) fun hi=>wb (kept a.2.2)<|lo=0/\0<=hi/\hi<=Int.ofNat (jB a.2.1 a.2.2)/\nx (.slice (some (a.1,0)) hi.toNat a.2.2) s p
 | .s3 p=>wo (Ny op) fun x=>wo (aK t x.2.1) fun a=>wo (yI a) fun a=>wo (oM E.P x.1) fun _=>wo (aK t x.2.2.1) fun hi=>wo (asInt hi) fun hi=>wo (aK t x.2.2.2) fun mx=>wo (asInt mx) fun mx=>wb (kept a.2.2)<|0<=hi.2/\hi.2<=mx.2/\mx.2<=Int.ofNat (jB a.2.1 a.2.2)/\nx (.slice (some (a.1,0)) hi.2.toNat<|.known mx.2.toNat) s p
 | .ao L1 L2 l p=>wo (DZ op) fun x=>wo (aK t x.1) fun a=>wo (yI a) fun a=>wo (aK t x.2.1) fun b=>wo (yI b) fun b=>wo (D0 E.P x.2.2) fun i=>wb (Nat.blt a.1 s.nx&&(Nat.blt b.1 s.nx&&(Nat.blt s.nx top&&(dr||Nat.beq s.mark 0))))
  (a.2.2= .known a.2.1/\1<=b.2.1/\s.h.get a.1=some (.cells L1.length (Tr.fill L1 0 .nil) [])/\s.h.get b.1=some (.cells L2.length (Tr.fill L2 0 .nil) [])/\L1.length<=top/\L2.length<=top/\a.2.1*i.1<=L1.length/\b.2.1*i.1<=L2.length/\
   L1.take (a.2.1*i.1)++L2.take (b.2.1*i.1)=l/\l.all AV.cj=true/\2*(a.2.1+b.2.1)*i.2+4096*i.2<=room/\l.length<=top/\
   nx (.slice (some (s.nx,0)) (a.2.1+b.2.1)<|.ar (a.2.1+b.2.1) i.1) (LZ dr s (s.h.put s.nx<|some<|.cells l.length (Tr.fill l 0 .nil) []) [a.1,b.1] []) p)
 | .an L1 L2 l p=>wo (DZ op) fun x=>wo (aK t x.1) fun a=>wo (yI a) fun a=>wo (aK t x.2.1) fun b=>wo (yI b) fun b=>wo (D0 E.P x.2.2) fun i=>wb (yp i.1&&(Nat.blt a.1 s.nx&&(Nat.blt b.1 s.nx&&Nat.blt s.nx top)))
  (a.2.2= .known a.2.1/\1<=a.2.1/\1<=b.2.1/\s.h.get a.1=some (.cells L1.length (Tr.fill L1 0 .nil) [])/\s.h.get b.1=some (.cells L2.length (Tr.fill L2 0 .nil) [])/\L1.length<=top/\L2.length<=top/\a.2.1*i.1<=L1.length/\b.2.1*i.1<=L2.length/\
   L1.take (a.2.1*i.1)++L2.take (b.2.1*i.1)=l/\l.all AV.cj=true/\2*(a.2.1+b.2.1)*i.2+4096*i.2<=room/\l.length<=top/\
   nx (.slice (some (s.nx,0)) (a.2.1+b.2.1)<|.ar (a.2.1+b.2.1) i.1) (ph (.cells l.length (Tr.fill l 0 .nil) [])<|bc a.1<|bc b.1 s) p)
 | .il p=>wo (vJ t op) fun x=>wo (EP n) fun m=>match E.sp x.1 with
  |some _=>False
  |none=>wo (E.P.funcs[x.1]?) fun fn=>wo fn.body fun body=>wb (!(fn.name == "runtime.NumGoroutine"))<|wb (Nat.ble (max fn.ntmps x.2.length) top)<|ih m (.fr x.1 (max fn.ntmps x.2.length) [.code body] (dZ x.2) s) p fn.results.toList nx fun _ _ _=>False
 |_=>False
def RU(E:Env)(ih:Rec)(n:Nat)(c:Mz)(p:Pl)(rs:List ResultVar)(k:Kt)(C:Ay):Prop:=match c with
 | .fr f nt K t s=>match p with
  | .st j p=>wr (eg E.P (bg E.P E.sp E.F n) j ⟨f,t,nt,K,[],none⟩ s) fun x s1=>wo (Qr x) fun y=>ih n (.fr y.1 y.2.1 y.2.2.1 y.2.2.2 s1) p rs k C
  | .rg p=>wo (Ph K) fun x=>ih n (.rg f nt x.2.2 x.1 (Xz x.2.1) 0 t s) p rs k C
  | .rt j p=>wr (eg E.P (bg E.P E.sp E.F n) j ⟨f,t,nt,K,[],none⟩ s) fun x s1=>wo (Qs x) fun y=>wr (finish E.P rs y.1 y.2 s1) fun v s2=>k v s2 p
  | .cut p=>C ⟨f,t,nt,K,[],none⟩ s p
  | .ls l o nx p=>wb (E.fg&&(qf top l&&(qf top o&&((Nat.ble s.nx nx&&Nat.ble nx top)&&o.all fun q=>Kw q.2))))<|l.map (fun q=>t.get q.1)=l.map (fun q=>some q.2)/\o.map (fun q=>s.h.get q.1)=o.map (fun q=>q.2)/\C ⟨f,aP l,nt,K,[],none⟩ (aj o nx) p
  | .rn l0 o0 l o bF nx p=>wb (E.fg&&Nat.beq s.nx bF)<|l0.map (fun q=>t.get q.1)=l0.map (fun q=>some q.2)/\o0.map (fun q=>s.h.get q.1)=o0.map (fun q=>q.2)/\gY E.F E.lo bF l0 o0 l o nx/\C ⟨f,aP l,nt,K,[],none⟩ (aj o nx) p
  | .bk l o nx p=>wb (E.fg&&(qf top l&&(qf nx o&&((Nat.ble nx s.nx&&(Nat.blt s.nx top&&Nat.ble E.lo nx))&&o.all fun q=>Kw q.2))))<|l.map (fun q=>t.get q.1)=l.map (fun q=>some q.2)/\o.map (fun q=>s.h.get q.1)=o.map (fun q=>q.2)/\yH nx l o/\C ⟨f,aP l,nt,K,[],none⟩ (aj o nx) p
  |_=>False
 | .rg f nt K ops D i t s=>match p with
  | .go m p=>wb (Nat.ble (i+m) ops.size)<|wr (QW E.P (bg E.P E.sp E.F n) nt ops D i m t s) fun x s1=>ih n (.rg f nt K ops x.2 (i+m) x.1 s1) p rs k C
  | .en p=>wb (Nat.ble ops.size i)<|wb (Lr ops D)<|ih n (.fr f nt K t s) p rs k C
  |p=>wo (yD ops i) fun o=>wb (Lq ops o.2.2 t)<|Zo E (D.isSome&&Nat.beq s.mark 0) ih n (fun v s1 p=>wo (jk nt t o.2.1 v) fun t1=>ih n (.rg f nt K ops (LY D i (s) s1) (i+1) t1<|Fl D s s1) p rs k C) (iE D s) t o.1 p
def wp(E:Env)(fuel:Nat):Rec:= @Nat.rec (fun _=>Rec) (fun _ _ _ _ _ _=>False) (fun _ ih=>RU E ih) fuel
def md(P:Program)(SI:aO)(G:AF->AS->Prop)(f nt:Nat)(K:List Item)(ops:Array Oper)(D:Option<|List dC)(i:Nat)(t:Tr AV)(s:AS):Prop:=match D with
 |none=>yF P SI G f nt K ops i t s
 |some acc=>rh P SI G f nt K ops acc i t s
def Gof(P:Program)(SI:aO)(G:AF->AS->Prop)(c:Mz):Prop:=match c with
 | .fr f nt K t s=>G ⟨f,t,nt,K,[],none⟩ s
 | .rg f nt K ops D i t s=>md P SI G f nt K ops D i t s
end
theorem bf{o:Option α}{k:α->Prop}(h:wo o k):∃x,o=some x/\k x:=by
 cases o with
 |none=>exact h.elim
 |some x=>exact⟨x,rfl,h⟩
theorem He{r:R α}{k:α->AS->Prop}(h:wr r k):∃x s,r= .ok x s/\k x s:=by
 cases r with
 |bad=>exact h.elim
 |ok x s=>exact⟨x,s,rfl,h⟩
theorem gW{k:Prop}(h:wb b k):b=true/\k:=by
 cases b with
 |false=>exact h.elim
 |true=>exact⟨rfl,h⟩
theorem aeW(fi args ca:List AV):QT fi args ca=fi++args++ca:=by
 unfold QT;split
 ·simp
 ·rfl
theorem adD{g:FuncId×List AV×List AV}(h:QU v=some g):v= .func (.func g.1) g.2.1 g.2.2:=by
 unfold QU at h;split at h
 ·injection h with h;subst h;rfl
 ·cases h
theorem rO{x:IntKind×Int}(h:asInt v=some x):v= .int x.1 x.2:=by
 unfold asInt at h;split at h
 ·injection h with h;subst h;rfl
 ·cases h
theorem aba{x:Option (Nat×Nat)×Nat×cM}(h:asSlice v=some x):v= .slice x.1 x.2.1 x.2.2:=by
 unfold asSlice at h;split at h
 ·injection h with h;subst h;rfl
 ·cases h
theorem acu{x:br}{y:Nat×Nat×List Item×Tr AV}(h:Qr x=some y):x= .go ⟨y.1,y.2.2.2,y.2.1,y.2.2.1,[],none⟩:=by
 unfold Qr at h;split at h
 ·injection h with h;subst h;rfl
 ·cases h
theorem acv{x:br}{y:AF×Option Code}(h:Qs x=some y):x= .leave y.1 y.2:=by
 unfold Qs at h;split at h
 ·injection h with h;subst h;rfl
 ·cases h
theorem abb{K:List Item}{y:Array Oper×Bool×List Item}(h:Ph K=some y):∃id,K= .code (.region id y.1 y.2.1)::y.2.2:=by
 unfold Ph at h;split at h
 ·injection h with h;subst h;exact⟨_,rfl⟩
 ·cases h
theorem Gw{m:Nat}(h:EP n=some m):n=m+1:=by
 cases n with
 |zero=>cases h
 |succ n=>injection h with h;subst h;rfl
theorem S3{op:Op}{x:BinOp×TypeId×Operand×Operand×TypeId}(h:JO op=some x):op= .binOp x.1 x.2.1 x.2.2.1 x.2.2.2.1 x.2.2.2.2:=by
 unfold JO at h;split at h
 ·injection h with h;subst h;rfl
 ·cases h
theorem abE{t:Tr AV}{op:Op}{x:FuncId×List AV}(h:vJ t op=some x):∃fo xs ts fi args ca,op= .call ⟨.value fo,xs,ts⟩/\aK t fo=some (.func (.func x.1) fi ca)/\jQ (aK t) xs.toList=some args/\x.2=fi++args++ca:=by
 unfold vJ at h;split at h
 ·cases h
 ·rename_i y hy;have eU:op= .call ⟨.value y.1,y.2.1,y.2.2⟩:=by
   unfold callParts at hy;split at hy
   ·injection hy with hy;subst hy;rfl
   ·cases hy
  split at h
  ·cases h
  ·rename_i fv hf;split at h
   ·cases h
   ·rename_i g hg;split at h
    ·cases h
    ·rename_i args ha;injection h with h;subst h
     exact⟨_,_,_,g.2.1,_,g.2.2,eU,by rw[hf,adD hg],ha,aeW _ _ _⟩
section
variable {P:Program} {s s1:AS} {SI:aO} {t t1:Tr AV} {ops:Array Oper} {f nt i:Nat} {K:List Item} {G:AF->AS->Prop} {D:Option<|List dC}
theorem aeX{o:BinOp}{a b:Int}(h:QV o a b=some c):∃r,QQ o a b=some r/\(r=true↔c):=by
 unfold QV at h;split at h<;>first|(injection h with h;subst h)|cases h
 ·exact⟨_,rfl,by rw[decide_eq_true_iff]⟩
 ·exact⟨_,rfl,by rw[decide_eq_true_iff]⟩
 ·exact⟨_,rfl,by rw[decide_eq_true_iff]⟩
 ·exact⟨_,rfl,by rw[decide_eq_true_iff]⟩
 ·exact⟨_,rfl,by simp⟩
 ·exact⟨_,rfl,by simp⟩
theorem md.op{op:Op}{d:Option Tmp}{g:Option<|Nat×Bool}(ho:yD ops i=some (op,d,g))(hw:Lq ops g t=true)(h:(dO P op).val SI t (iE D s)= .ok v s1)(hp:jk nt t d v=some t1)(H:md P SI G f nt K ops (LY D i s s1) (i+1) t1<|Fl D s s1):md P SI G f nt K ops D i t s:=by
 cases D with
 |none=>exact yF.step (VO ho) (agA ho hw h hp) H
 |some acc=>exact rh.step (VO ho) (aeT ho hw h hp) H
theorem md.go{x:Tr AV×Option (List dC)}(hn:Nat.ble (i+n) ops.size=true)(h:QW P SI nt ops D i n t s= .ok x s1)(H:md P SI G f nt K ops x.2 (i+n) x.1 s1):md P SI G f nt K ops D i t s:=by
 have hle:=aL.1 hn;unfold QW at h;cases D with
 |none=>
  simp only at h;split at h
  ·rename_i t2 s2 e;injection h with h1 h2;subst h1;subst h2
   obtain⟨t3,s3,q1,q2⟩:=H;refine⟨t3,s3,?_,q2⟩;rw[show ops.size - i=n+(ops.size - (i+n)) by omega];exact TA e q1
  ·cases h
 |some acc=>
  simp only at h;split at h
  ·rename_i y s2 e;injection h with h1 h2;subst h1;subst h2
   obtain⟨t3,ms,s3,q1,q2,q3⟩:=H;refine⟨t3,_,s3,?_,by rw[←List.append_assoc];exact q2,q3⟩;rw[show ops.size - i=n+(ops.size - (i+n)) by omega];exact UU rfl ak e q1
  ·cases h
theorem md.done(h:Nat.ble ops.size i=true)(ho:Lr ops D=true)(H:G ⟨f,t,nt,K,[],none⟩ s):md P SI G f nt K ops D i t s:=by
 cases D with
 |none=>exact yF.done h H
 |some acc=>exact rh.done (and_true.2 ⟨h,ho⟩) H
theorem md.aj2(hG:Chunk P SI G){id:Nat}{d:Bool}(H:md P SI G f nt K ops (Xz d) 0 t s):G ⟨f,t,nt,.code (.region id ops d)::K,[],none⟩ s:=by
 cases d with
 |false=>exact Chunk.AX hG (c:=.region id ops false) rfl H
 |true=>exact Chunk.ajY hG (c:=.region id ops true) rfl H
theorem abF{op:Op}{x:Nat×List AV}(h:Pj t op=some x)(hv:SI (.round x.1) x.2 s= .ok v s1):(dO P op).val SI t s= .ok v s1:=by
 unfold Pj at h;split at h
 ·cases h
 ·rename_i y e;split at h
  ·rename_i l e2;split at h
   ·cases h
   ·rename_i args e3;injection h with h;subst h
    unfold callParts at e;split at e
    ·rename_i fo xs ts;injection e with e;subst e
     show uo fo xs.toList SI t s=_;unfold uo;simp only at e2 e3;rw[e3,bW,e2,bW];show nr SI (.yield l) args s=_;exact hv
    ·cases e
  ·cases h
theorem Br{op:Op}{x:FuncId×List AV}(h:vJ t op=some x)(hv:SI (.fn x.1) x.2 s= .ok v s1):(dO P op).val SI t s= .ok v s1:=by obtain⟨fo,xs,ts,fi,args,ca,rfl,h1,h2,h3⟩:=abE h;show uo fo xs.toList SI t s=_;unfold uo;rw[h2,bW,h1,bW];show SI (.fn x.1) (fi++args++ca) s=_;rw[←h3];exact hv
end
theorem aav{op:Op}(h:NJ op=some x):op= .lookup x.1 x.2.1 x.2.2 true:=by
 unfold NJ at h;split at h
 ·injection h with h;subst h;rfl
 ·cases h
theorem aaR{op:Op}{x:TypeId×Operand×Operand×Operand}(h:OL op=some x):op= .mapUpdate x.1 x.2.1 x.2.2.1 x.2.2.2:=by
 unfold OL at h;split at h
 ·injection h with h;subst h;rfl
 ·cases h
theorem Uk(h:Ls v=some n):v= .map (some n):=by
 unfold Ls at h;split at h
 ·injection h with h;subst h;rfl
 ·cases h
theorem TE{P:Program}{y:TypeId×TypeId}(h:Kx P ty=some y):P.underlying ty=some (.map y.1 y.2):=by
 unfold Kx at h;split at h
 ·rename_i e;injection h with h;subst h;exact e
 ·cases h
theorem N7{k:IntKind}(h:HB k=true):k= .i64:=by
 unfold HB at h;split at h
 ·rfl
 ·cases h
theorem adE{v:Option AV}(h:QY v=true):v=some (.int .i64 0):=by
 unfold QY at h;split at h
 ·rfl
 ·cases h
theorem Nn{op:Op}(h:GP op=some x):op= .indexAddr x.1 x.2.1 x.2.2:=by
 unfold GP at h;split at h
 ·injection h with h;subst h;rfl
 ·cases h
theorem Jf{op:Op}{x:Operand×Operand×Array TypeId}(h:DZ op=some x):op= .call ⟨.builtin .append, #[x.1,x.2.1],x.2.2⟩:=by
 unfold DZ at h;split at h
 ·rename_i xs ts;split at h
  ·rename_i a b e;injection h with h;subst h
   have:xs= #[a,b]:=Array.ext' e;rw[this]
  ·cases h
 ·cases h
theorem adF{x:Nat×Nat×Nat×Nat}(h:QX v=some x):v= .slice (some (x.1,0)) x.2.1 (.ar x.2.2.1 x.2.2.2):=by
 unfold QX at h;split at h
 ·injection h with h;subst h;rfl
 ·cases h
theorem abG{m:Nat}(h:PN v=some m):v= .slice (some (m,0)) 1 (.known 1):=by
 unfold PN at h;split at h
 ·injection h with h;subst h;rfl
 ·cases h
theorem Jg{P:Program}{ts:Array TypeId}{x:Nat×Nat}(h:D0 P ts=some x):∃ty e,ts[0]? =some ty/\P.underlying ty=some (.slice e)/\(P.info? e).map (fun i=>(i.size,i.bytes,tJ i))=some (x.1,x.2,true)/\pP P ts[1]? =true/\Nat.beq x.2 0=false:=by
 unfold D0 at h;split at h
 ·rename_i ty h1;split at h
  ·rename_i e h2;split at h
   ·rename_i i h3;split at h
    ·rename_i hb;injection h with h;subst h
     obtain⟨b1,b2⟩:=and_true.1 hb;obtain⟨b2,b3⟩:=and_true.1 b2;refine⟨ty,e,h1,h2,by rw[h3];simp only[Option.map_some,b1],b2,by simpa using b3⟩
    ·cases h
   ·cases h
  ·cases h
 ·cases h
theorem Jb{op:Op}{x:TypeId×Operand}(h:Gv op=some x):op= .load x.1 x.2:=by
 unfold Gv at h;split at h
 ·injection h with h;subst h;rfl
 ·cases h
theorem aaw{op:Op}(h:NI op=some x):op= .store x.1 x.2.1 x.2.2:=by
 unfold NI at h;split at h
 ·injection h with h;subst h;rfl
 ·cases h
theorem N8{x:Nat×Nat×Nat}(h:HA v=some x):v= .ab x.1 x.2.1 x.2.2:=by
 unfold HA at h;split at h
 ·injection h with h;subst h;rfl
 ·cases h
theorem abH{x:Nat×Nat}(h:PO v=some x):v= .p9 x.1 x.2:=by
 unfold PO at h;split at h
 ·injection h with h;subst h;rfl
 ·cases h
theorem Jr{x:Nat×Nat}(h:addrOf v=some x):v= .ptr (some x):=by
 unfold addrOf at h;split at h
 ·injection h with h;subst h;rfl
 ·cases h
theorem N9{z:Int}{len:Nat}(h1:0<=z)(h2:z<Int.ofNat len):within z len=some z.toNat:=by
 obtain⟨m,rfl⟩:=Int.eq_ofNat_of_zero_le h1;show within (Int.ofNat m) len=some m;have h2:(m:Int)<(len:Int):=h2;unfold within;have:Nat.blt m len=true:=by rw[blt_eq];omega
 simp only[this]
section
variable {P:Program} {s s1:AS} {SI:aO} {t:Tr AV}
theorem ah4{len K:Nat}{z:Int}(hx:aK t x.2.1=some (.slice (some (n,0)) len cap))(hz:aK t x.2.2=some (.int ik z))(hk:oM P x.1=some K)(h1:0<=z)(h2:z<Int.ofNat len):(dO P<|.indexAddr x.1 x.2.1 x.2.2).val SI t s= .ok (.ptr<|some (n,z.toNat*K)) s:=by
 show qC P x.1 x.2.1 x.2.2 SI t s=_;unfold qC;rw[hx,hz,bW,bW];unfold oM at hk;split at hk
 ·rename_i e he;show lift (indexAddr P x.1 (.slice (some (n,0)) len cap)<|.int ik z) s=_;unfold indexAddr intOf;simp only[he,hk,N9 h1 h2,Nat.zero_add];rfl
 ·cases hk
theorem agM{K:Nat×Nat}{z:Int}(hx:aK t x.2.1=some (.ptr<|some (n,o)))(hz:aK t x.2.2=some (.int ik z))(hk:Qt P x.1=some K)(h1:0<=z)(h2:z<Int.ofNat K.1):(dO P<|.indexAddr x.1 x.2.1 x.2.2).val SI t s= .ok (.ptr<|some (n,o+z.toNat*K.2)) s:=by
 show qC P x.1 x.2.1 x.2.2 SI t s=_;unfold qC;rw[hx,hz,bW,bW];unfold Qt at hk;split at hk
 ·rename_i m e he;cases hs:eC P e with
  |none=>rw[hs] at hk;cases hk
  |some k=>
   rw[hs] at hk;injection hk with hk
   subst hk;show lift (indexAddr P x.1 (.ptr<|some (n,o))<|.int ik z) s=_;unfold indexAddr intOf;simp only[he,hs,N9 h1 h2];rfl
 ·cases hk
theorem agN{len K:Nat}{z:Int}(hx:aK t x.2.1=some (.ab n o len))(hz:aK t x.2.2=some (.int ik z))(hk:oM P x.1=some K)(h1:0<=z)(h2:z<Int.ofNat len):(dO P<|.indexAddr x.1 x.2.1 x.2.2).val SI t s= .ok (.p9 n<|o+z.toNat*K) s:=by
 show qC P x.1 x.2.1 x.2.2 SI t s=_;unfold qC;rw[hx,hz,bW,bW];unfold oM at hk;split at hk
 ·rename_i e he;show lift (indexAddr P x.1 (.ab n o len)<|.int ik z) s=_;unfold indexAddr intOf;simp only[he,hk,N9 h1 h2];rfl
 ·cases hk
theorem S4(hk:yp k=true)(hn:Nat.blt n s.nx=true)(h:cellsOf (s.h.get n) off k=some cs):jd n off k s= .ok cs (bc n s):=by
 cases k with
 |zero=>cases hk
 |succ k=>
  unfold cellsOf at h;split at h
  ·rename_i m tt z hg;split at h
   ·rename_i hb;show((bw n).bind fun o=>match o with
     | .cells m t z=>aF (Nat.ble (off+(k+1)) m) <| lift (lY t z (k+1) off)
     | .ro m t=>aF (Nat.ble (off+(k+1)) m) <| lift (lY t [] (k+1) off)
     |_=>fail) s=_
    rw[M.bN<|lW hn hg];show aF (Nat.ble (off+(k+1)) m) (lift<|lY tt z (k+1) off) (bc n s)=_;rw[hb,dz,h];rfl
   ·cases h
  ·cases h
theorem abI(hg:qV P ty=some ag)(hw:Hd P ty ag=some k)(hk:yp k=true)(hn:Nat.blt n s.nx=true)(hv:HZ ag cs=some v)(h:cellsOf (s.h.get n) off k=some cs):loadVar P ty n off s= .ok v (bc n s):=by
 unfold loadVar;rw[hg,bW];cases ag with
 |true=>
  have hw:eC P ty=some k:=hw;injection hv with hv;subst hv
  show(aC (eC P ty) fun k=>(jd n off k).bind fun l=>M.pure<|AV.agg l) s=_;rw[hw,bW,M.bN<|S4 hk hn h];rfl
 |false=>
  injection hw with hw;subst hw
  show((jd n off 1).bind fun l=>lift<|one l) s=_;rw[M.bN<|S4 hk hn h];show lift (one cs) (bc n s)=_;rw[show one cs=some v from hv];rfl
theorem Qv{x:TypeId×Operand}(ha:aK t x.2=some (.ptr<|some a))(hg:qV P x.1=some ag)(hw:Hd P x.1 ag=some k)(hk:yp k=true)(hn:Nat.blt a.1 s.nx=true)(hv:HZ ag cs=some v)(h:cellsOf (s.h.get a.1) a.2 k=some cs):(dO P<|.load x.1 x.2).val SI t s= .ok v (bc a.1 s):=by show uk P x.1 x.2 SI t s=_;unfold uk;rw[ha,bW];show loadVar P x.1 a.1 a.2 s=_;exact abI hg hw hk hn hv h
theorem agO{o:ae}(ha:aK t x.2.1=some (.ptr<|some a))(hv:aK t x.2.2=some v)(hk:eC P x.1=some k)(hl:Nat.beq v.cells.length k=true)(hp:yp k=true)(hn:Nat.blt a.1 s.nx=true)(ht:Nat.blt a.1 top=true)(h:v7 (s.h.get a.1) a.2 v.cells=some o):(dO P<|.store x.1 x.2.1 x.2.2).val SI t s= .ok nj (fB a.1 (some o)<|bc a.1 s):=by
 show xX P x.1 x.2.1 x.2.2 SI t s=_;unfold xX;rw[ha,bW];show aC (aK t x.2.2) (fun v=>(storeVar P x.1 a.1 a.2 v).bind fun _=>M.pure nj) s=_;rw[hv,bW];have hw:storeVar P x.1 a.1 a.2 v s= .ok () (fB a.1 (some o)<|bc a.1 s):=by
  unfold storeVar;rw[hk,bW,hl,dz];unfold v7 at h;split at h
  ·rename_i m tt z hg;split at h
   ·rename_i hb;injection h with h;subst h
    cases hc:v.cells with
    |nil=>rw[hc] at hl;have:=Nat.eq_of_beq_eq_true hl;subst this;cases hp
    |cons y r=>
     rw[hc] at hb;show((bw a.1).bind fun o=>match o with
      | .cells m t z=>aF (and (Nat.ble (a.2+(r.length+1)) m)<|and (Nat.ble m top)<|(y::r).all AV.cj) <| bM a.1 (some<|.cells m (Tr.fill (y::r) a.2 t) z)
      |_=>fail) s=_
     rw[M.bN<|lW hn hg];show aF (and (Nat.ble (a.2+(r.length+1)) m)<|and (Nat.ble m top)<|(y::r).all AV.cj) (bM a.1<|some<|.cells m (Tr.fill (y::r) a.2 tt) z) (bc a.1 s)=_;rw[show(and (Nat.ble (a.2+(r.length+1)) m)<|and (Nat.ble m top)<|(y::r).all AV.cj)=true from hb,dz];obtain⟨e1,e2,_⟩:=fN a.1 s;exact xN (p:=.cells m tt z) (by rw[e2];exact hn) (by rw[e1];exact hg) rfl ht
   ·cases h
  ·cases h
 rw[M.bN hw];rfl
theorem agP{x:TypeId×Operand}(ha:aK t x.2=some (.p9 a.1 a.2))(hg:qV P x.1=some ag){z:Nat}(hz:eC P x.1=some z)(hw:Hd P x.1 ag=some k)(hv:HZ ag cs=some v)(ht:top<=a.1)(h:cx F a.1 a.2 k=some cs):(dO P<|.load x.1 x.2).val (bg P sp F n) t s= .ok v s:=by
 show uk P x.1 x.2 (bg P sp F n) t s=_;unfold uk;rw[ha,bW];show(match Nat.ble top a.1 with
  |true=>vD P x.1 (bg P sp F n) a.1 a.2
  |false=>xL P x.1 a.1 a.2) s=_
 rw[aL.2 ht];have hr:∀k,cx F a.1 a.2 k=some cs->bg P sp F n (.row a.1 a.2 k) [] s= .ok (.agg cs) s:=by
  intro k h;have:rf F a.1 a.2 k s= .ok (.agg cs) s:=by
   unfold cx at h;unfold rf;cases e:F a.1 with
   |none=>rw[e] at h;cases h
   |some l=>
    rw[e] at h;simp only at h;split at h
    ·rename_i hb;injection h with h;subst h
     rw[bW,hb,dz];rfl
    ·cases h
  cases n<;>exact this
 show vD P x.1 (bg P sp F n) a.1 a.2 s=_;unfold vD;rw[hg,bW];rw[hz,bW];cases ag with
 |true=>
  have hw:eC P x.1=some k:=hw;rw[hz] at hw;injection hw with hw;subst hw
  injection hv with hv;subst hv
  show((bg P sp F n (.row a.1 a.2 z) []).bind fun v=>_) s=_;rw[M.bN<|hr z h];rfl
 |false=>
  injection hw with hw;subst hw
  show((bg P sp F n (.row a.1 a.2 1) []).bind fun v=>_) s=_;rw[M.bN<|hr 1 h];show lift (one cs) s=_;rw[show one cs=some v from hv];rfl
theorem ah5{x:BinOp×TypeId×Operand×Operand×TypeId}{k:IntKind}{a b:Int}(ho:x.1= .rem)(hx:aK t x.2.2.1=some (.int k a))(hy:aK t x.2.2.2.1=some (.int k b))(hb:b≠0):(dO P<|.binOp x.1 x.2.1 x.2.2.1 x.2.2.2.1 x.2.2.2.2).val SI t s= .ok (.int k<|Int.tmod a b) s:=by rw[ho];exact agz hx hy hb rfl
theorem OM:∀{l:List<|Nat×AV},l.map (fun q=>t.get q.1)=l.map (fun q=>some q.2)->yo t l
 |[],_=>trivial
 |p::l,h=>by simp only[List.map_cons,List.cons.injEq] at h;exact⟨h.1,OM h.2⟩
theorem Pm{h:Tr ae}:∀{o:List<|Nat×Option ae},o.map (fun q=>h.get q.1)=o.map (fun q=>q.2)->(o.all fun q=>Kw q.2)=true->yE h o
 |[],_,_=>trivial
 |p::l,e,k=>by simp only[List.map_cons,List.cons.injEq] at e;rw[List.all_cons] at k;obtain⟨k1,k2⟩:=and_true.1 k;exact⟨⟨e.1,fun o ho=>by rw[ho] at k1;exact k1⟩,Pm e.2 k2⟩
end
def A0(m m':dC):Prop:=m.i=m'.i/\(∀n∈m.rd,n∈m'.rd)/\(∀n∈m.wr,n∈m'.wr)/\m.lo=m'.lo/\m.hi=m'.hi
def nB:List dC->List dC->Prop
 |[],[]=>True
 |x::l,y::m=>A0 x y/\nB l m
 |_,_=>False
theorem A0.refl(m:dC):A0 m m:=⟨rfl,fun _ h=>h,fun _ h=>h,rfl,rfl⟩
theorem nB.refl:∀l:List dC,nB l l
 |[]=>trivial
 |x::l=>⟨A0.refl x,nB.refl l⟩
theorem nB.app:∀{a a' b b':List dC},nB a a'->nB b b'->nB (a++b) (a'++b')
 |[],[],_,_,_,h=>h
 |_::_,_::_,_,_,h,k=>⟨h.1,nB.app h.2 k⟩
 |[],_::_,_,_,h,_=>h.elim
 |_::_,[],_,_,h,_=>h.elim
theorem Oa{lo hi:Nat}:∀{l:List Nat},Ac lo hi l=true↔∃n∈l,lo<=n/\n<hi
 |[]=>by simp[Ac]
 |x::l=>by
  have ih:=Oa (lo:=lo) (hi:=hi) (l:=l);unfold Ac;cases q:(Nat.ble lo x&&Nat.blt x hi) with
  |true=>obtain⟨h1,h2⟩:=and_true.1 q;exact⟨fun _=>⟨x,List.mem_cons_self,aL.1 h1,(blt_eq _ _).mp h2⟩,fun _=>rfl⟩
  |false=>
   refine ih.trans ⟨fun⟨n,a,b⟩=>⟨n,List.mem_cons_of_mem _ a,b⟩,fun⟨n,a,b⟩=>?_⟩;rcases List.mem_cons.1 a with rfl|a
   ·exfalso;rw[show(Nat.ble lo n&&Nat.blt n hi)=true from and_true.2 ⟨aL.2 b.1,(blt_eq _ _).mpr b.2⟩] at q;cases q
   ·exact⟨n,a,b⟩
theorem Ob:∀{a b:List Nat},meets a b=true↔∃n∈a,n∈b
 |[],b=>by simp[meets]
 |x::a,b=>by
  have ih:=Ob (a:=a) (b:=b);unfold meets;cases q:Cx x b with
  |true=>exact⟨fun _=>⟨x,List.mem_cons_self,JI.1 q⟩,fun _=>rfl⟩
  |false=>
   refine ih.trans ⟨fun⟨n,h,k⟩=>⟨n,List.mem_cons_of_mem _ h,k⟩,fun⟨n,h,k⟩=>?_⟩;rcases List.mem_cons.1 h with rfl|h
   ·rw[JI.2 k] at q;cases q
   ·exact⟨n,h,k⟩
theorem Ul{m:Nat}{a b:List Nat}(h:∀k∈a,k∈b)(n:Nat)(hn:n∈below m a):n∈below m b:=by obtain⟨h1,h2⟩:=xA.1 hn;exact xA.2 ⟨h n h1,h2⟩
theorem Js(l:List Nat):below 0 l=[]:=rfl
theorem abJ{x y y':dC}(hx:A0 x x')(hy:A0 y y')(h:tV x' y'=true):tV x y=true:=by
 unfold tV at h ⊢;obtain⟨h1,h2⟩:=and_true.1 h;refine and_true.2 ⟨?_,?_⟩
 ·cases q:meets x.wr y.rd with
  |false=>rfl
  |true=>obtain⟨n,a,b⟩:=Ob.1 q;rw[Ob.2 ⟨n,hx.2.2.1 n a,hy.2.1 n b⟩] at h1;cases h1
 ·cases q:Ac x.lo x.hi y.rd with
  |false=>rfl
  |true=>obtain⟨n,a,b⟩:=Oa.1 q;rw[hx.2.2.2.1,hx.2.2.2.2] at b;rw[Oa.2 ⟨n,hy.2.1 n a,b⟩] at h2;cases h2
theorem abK{x:dC}(hx:A0 x x')(h:tW x'=true):tW x=true:=by
 unfold tW at h ⊢;cases e:x'.wr with
 |cons a l=>rw[e] at h;cases h
 |nil=>
  rw[e] at h;cases e2:x.wr with
  |nil=>rw[hx.2.2.2.1,hx.2.2.2.2];exact h
  |cons a l=>have:=hx.2.2.1 a (by rw[e2];exact List.mem_cons_self);rw[e] at this;cases this
theorem SL{b:Array Nat}{x x':dC}(hx:A0 x x'):∀{l l':List dC},nB l l'->tF b x' l'=true->tF b x l=true
 |[],[],_,_=>rfl
 |[],_::_,h,_=>h.elim
 |_::_,[],h,_=>h.elim
 |y::l,y'::l',hl,h=>by
  unfold tF at h ⊢;cases q:(Nat.beq x'.i y'.i||(tV x' y'|| !loose b x'.i y'.i)) with
  |false=>rw[q] at h;cases h
  |true=>
   rw[q] at h;have:(Nat.beq x.i y.i||(tV x y|| !loose b x.i y.i))=true:=by
    rw[hx.1,hl.1.1];cases q1:Nat.beq x'.i y'.i with
    |true=>rfl
    |false=>
     rw[q1] at q;cases q2:tV x' y' with
     |true=>rw[abJ hx hl.1 q2];rfl
     |false=>
      rw[q2] at q;cases tV x y
      ·exact q
      ·rfl
   rw[this];exact SL hx hl.2 h
theorem Um{b:Array Nat}{all QZ:List dC}(ha:nB all QZ):∀{l l':List dC},nB l l'->qL b QZ l'=true->qL b all l=true
 |[],[],_,_=>rfl
 |[],_::_,h,_=>h.elim
 |_::_,[],h,_=>h.elim
 |x::l,x'::l',hl,h=>by
  unfold qL at h ⊢;cases q:(tW x'||tF b x' QZ) with
  |false=>rw[q] at h;cases h
  |true=>
   rw[q] at h;have:(tW x||tF b x all)=true:=by
    cases q1:tW x' with
    |true=>rw[abK hl.1 q1];rfl
    |false=>rw[q1] at q;rw[SL hl.1 ha q];cases tW x<;>rfl
   rw[this];exact Um ha hl.2 h
theorem rh.cover{P:Program}{SI:aO}{G:AF->AS->Prop}{f nt:Nat}{K:List Item}{ops:Array Oper}{acc Q0:List dC}{i:Nat}{t:Tr AV}{s:AS}(h:nB acc Q0)(H:rh P SI G f nt K ops Q0 i t s):rh P SI G f nt K ops acc i t s:=by obtain⟨t1,ms,s1,q1,q2,q3⟩:=H;exact⟨t1,ms,s1,q1,Um (h.app<|nB.refl ms) (h.app<|nB.refl ms) q2,q3⟩
theorem acw{B:Prop}(hy:b=true->A)(mm:b=false->B)(ha:b=true->A->X)(hb:b=false->B->X):X:=by
 cases b with
 |true=>exact ha rfl<|hy rfl
 |false=>exact hb rfl<|mm rfl
theorem adG{o:Option AV}{d:Decidable c}{B:Prop}(h:o=some (.bool<|@decide c d))(hy:c->A)(mm:¬c->B)(ha:o=some (.bool true)->A->X)(hb:o=some (.bool false)->B->X):X:=by
 by_cases q:c
 ·rw[decide_eq_true q] at h;exact ha h<|hy q
 ·rw[decide_eq_false q] at h;exact hb h<|mm q
theorem BB{x:Nat×Nat×cM}(h:yI v=some x):v= .slice (some (x.1,0)) x.2.1 x.2.2:=by
 unfold yI at h;split at h
 ·injection h with h;subst h;rfl
 ·cases h
theorem SM{op:Op}{x:TypeId×Operand×Option Operand×Option Operand}(h:Jq op=some x):op= .slice x.1 x.2.1 x.2.2.1 x.2.2.2 none:=by
 unfold Jq at h;split at h
 ·injection h with h;subst h;rfl
 ·cases h
theorem Oc{i:Int}(h0:0<=i)(h1:i<(n:Int)):within i n=some i.toNat:=by
 obtain⟨k,rfl⟩:=Int.eq_ofNat_of_zero_le h0;have hk:k<n:=by omega
 show(match (Int.ofNat k) with| .ofNat k=>(match Nat.blt k n with|true=>some k|false=>none)| .negSucc _=>none)=some k;have:Nat.blt k n=true:=by rw[blt_eq];exact hk
 simp only[this]
theorem Jh{t:Tr AV}{o:Option Operand}{d v:Int}{qW:Nat}(h:vK t o d=some v)(h0:0<=v)(h1:v<=(qW:Int)):∃y,opt (aK t) o=some y/\∀dn:Nat,(Int.ofNat dn=d)->bound y qW dn=some v.toNat:=by
 cases o with
 |none=>
  injection h with h;subst h
  exact⟨none,rfl,fun dn e=>by subst e;rfl⟩
 |some x=>
  unfold vK at h;simp only at h;cases e:aK t x with
  |none=>rw[e] at h;cases h
  |some z=>
   rw[e] at h;cases z<;>simp only at h<;>first|(cases h;done)|skip
   rename_i k n;injection h with h;subst h
   refine⟨some<|.int k n,?_,fun dn _=>?_⟩
   ·show(match aK t x with|none=>none|some v=>some<|some v)=_;rw[e]
   ·show within n (qW+1)=_;exact Oc h0 ak
theorem ah6{P:Program}{SI:aO}{t:Tr AV}{s:AS}{x:TypeId×Operand×Option Operand×Option Operand}{len K:Nat}{lo hi:Int}(hx:aK t x.2.1=some (.ab n o len))(hk:oM P x.1=some K)(h1:vK t x.2.2.1 0=some lo)(h2:vK t x.2.2.2 (Int.ofNat len)=some hi)(ht:top<=n)(a1:0<=lo)(a2:lo<=hi)(a3:hi<=Int.ofNat len):
 (dO P<|.slice x.1 x.2.1 x.2.2.1 x.2.2.2 none).val SI t s= .ok (.ab n (o+lo.toNat*K)<|hi.toNat - lo.toNat) s:=by
 obtain⟨y1,e1,f1⟩:=Jh (qW:=hi.toNat) h1 a1 ak;obtain⟨y2,e2,f2⟩:=Jh (qW:=len) h2 ak a3;show qI P x.1 x.2.1 x.2.2.1 x.2.2.2 none SI t s=_;unfold qI;rw[hx,bW,e1,bW,e2,bW];show lift (rU P x.1 (.ab n o len) y1 y2 none) s=_;have:rU P x.1 (.ab n o len) y1 y2 none=some (.ab n (o+lo.toNat*K)<|hi.toNat - lo.toNat):=by
  unfold oM at hk;split at hk<;>first|(cases hk;done)|skip
  rename_i e hu;unfold rU;rw[hu];simp only[hk,f2 len rfl,f1 0 rfl,aL.2 ht]
 rw[this];rfl
theorem aaq{op:Op}{x:TypeId×Operand×Operand×Operand}(h:Ny op=some x):op= .slice x.1 x.2.1 none (some x.2.2.1) (some x.2.2.2):=by
 unfold Ny at h;split at h
 ·injection h with h;subst h;rfl
 ·cases h
theorem ah7{P:Program}{SI:aO}{t:Tr AV}{s:AS}{x:TypeId×Operand×Option Operand×Option Operand}{len K:Nat}{hi:Int}(hx:aK t x.2.1=some (.slice (some (n,0)) len cap))(hk:oM P x.1=some K)(h1:vK t x.2.2.1 0=some 0)(h2:vK t x.2.2.2 (Int.ofNat len)=some hi)(hc:kept cap=true)(a1:0<=hi)(a2:hi<=Int.ofNat (jB len cap)):
 (dO P<|.slice x.1 x.2.1 x.2.2.1 x.2.2.2 none).val SI t s= .ok (.slice (some (n,0)) hi.toNat cap) s:=by
 obtain⟨y1,e1,f1⟩:=Jh (qW:=hi.toNat) h1 ak ak;obtain⟨y2,e2,f2⟩:=Jh (qW:=jB len cap) h2 a1 a2;show qI P x.1 x.2.1 x.2.2.1 x.2.2.2 none SI t s=_;unfold qI;rw[hx,bW,e1,bW,e2,bW];show lift (rU P x.1 (.slice (some (n,0)) len cap) y1 y2 none) s=_;have:rU P x.1 (.slice (some (n,0)) len cap) y1 y2 none=some (.slice (some (n,0)) hi.toNat cap):=by
  unfold oM at hk;split at hk<;>first|(cases hk;done)|skip
  rename_i e hu;unfold rU;rw[hu];have f1':=f1 0 rfl;simp only[hk,f2 len rfl];rw[f1'];cases cap with
  |known c=>
   show(match Nat.beq c 0 with
    |true=>some (AV.slice (some (n,0)) (hi.toNat - 0)<|.known<|c - 0)
    |false=>some<|AV.slice (some (n,0+0*K)) (hi.toNat - 0)<|.known<|c - 0)=_
   rw[Nat.zero_mul];cases Nat.beq c 0<;>rfl
  |ar b e=>rfl
  |lost=>cases hc
 rw[this];rfl
theorem ah8{P:Program}{SI:aO}{t:Tr AV}{s:AS}{x:TypeId×Operand×Operand×Operand}{len K:Nat}{hi mx:IntKind×Int}(hx:aK t x.2.1=some (.slice (some (n,0)) len cap))(hk:oM P x.1=some K)(h1:aK t x.2.2.1=some (.int hi.1 hi.2))(h2:aK t x.2.2.2=some (.int mx.1 mx.2))(hc:kept cap=true)(a1:0<=hi.2)(a2:hi.2<=mx.2)(a3:mx.2<=Int.ofNat (jB len cap)):
 (dO P<|.slice x.1 x.2.1 none (some x.2.2.1)<|some x.2.2.2).val SI t s= .ok (.slice (some (n,0)) hi.2.toNat<|.known mx.2.toNat) s:=by
 show qI P x.1 x.2.1 none (some x.2.2.1) (some x.2.2.2) SI t s=_;unfold qI;have o1:opt (aK t) (some x.2.2.1)=some (some<|.int hi.1 hi.2):=by show(match aK t x.2.2.1 with|none=>none|some v=>some<|some v)=_;rw[h1]
 have o2:opt (aK t) (some x.2.2.2)=some (some<|.int mx.1 mx.2):=by show(match aK t x.2.2.2 with|none=>none|some v=>some<|some v)=_;rw[h2]
 rw[hx,bW,show opt (aK t) none=some none from rfl,bW,o1,bW,o2,bW];show lift (rU P x.1 (.slice (some (n,0)) len cap) none (some<|.int hi.1 hi.2)<|some<|.int mx.1 mx.2) s=_;have b1:bound (some<|.int mx.1 mx.2) (jB len cap) 0=some mx.2.toNat:=Oc ak (by have:(Int.ofNat<|jB len cap)=((jB len cap:Nat):Int):=rfl;omega);have b2:bound (some<|.int hi.1 hi.2) mx.2.toNat 0=some hi.2.toNat:=Oc a1 ak;have:rU P x.1 (.slice (some (n,0)) len cap) none (some<|.int hi.1 hi.2) (some<|.int mx.1 mx.2)=some (.slice (some (n,0)) hi.2.toNat<|.known mx.2.toNat):=by
  unfold oM at hk;split at hk<;>first|(cases hk;done)|skip
  rename_i e hu;unfold rU;rw[hu];simp only[hk];have h3:slice3 K (some (n,0)) (jB len cap) none (some<|.int hi.1 hi.2) (.int mx.1 mx.2)=some (.slice (some (n,0)) hi.2.toNat<|.known mx.2.toNat):=by
   unfold slice3;rw[b1];simp only;rw[b2];show(match Nat.beq mx.2.toNat 0 with
    |true=>some (AV.slice (some (n,0)) (hi.2.toNat - 0)<|.known<|mx.2.toNat - 0)
    |false=>some<|AV.slice (some (n,0+0*K)) (hi.2.toNat - 0)<|.known<|mx.2.toNat - 0)=_
   rw[Nat.zero_mul];cases Nat.beq mx.2.toNat 0<;>rfl
  cases cap with
  |known c=>exact h3
  |ar b e=>exact h3
  |lost=>cases hc
 rw[this];rfl
theorem adH{P:Program}{m:Nat}{s:AS}(h:cx F n o k=some cs):bg P sp F m (.row n o k) [] s= .ok (.agg cs) s:=by
 have:rf F n o k s= .ok (.agg cs) s:=by
  unfold cx at h;unfold rf;split at h
  ·rename_i l e;split at h
   ·rename_i q;injection h with h;subst h
    rw[e,bW,q,dz];rfl
   ·cases h
  ·cases h
 cases m<;>exact this
theorem abc{l:List AV}{z:Nat×List AV}(h:Pk l=some z):l= .ptr (some (z.1,0))::z.2:=by
 unfold Pk at h;split at h
 ·injection h with h;subst h;rfl
 ·cases h
theorem acx{o:Option ae}{u:Nat×AV}(h:Qu o=some u):o=some (.tok u.1 u.2):=by
 unfold Qu at h;split at h
 ·injection h with h;subst h;rfl
 ·cases h
theorem D1{E:Env}(hE:E.Ok):∀(fuel n:Nat) (c:Mz) (p:Pl) (rs:List ResultVar) (k:Kt) (C:Ay) (G:AF->AS->Prop),Chunk E.P (bg E.P E.sp E.F n) G->
 (∀fr s j aQ jm s1 x s2 p,eg E.P (bg E.P E.sp E.F n) j fr s= .ok (.leave aQ jm) s1->finish E.P rs aQ jm s1= .ok x s2->k x s2 p->G fr s)->(∀fr s p,C fr s p->G fr s)->(∀f nt K t s l o nx p,E.fg=true->qf top l=true->qf top o=true->(Nat.ble s.nx nx&&Nat.ble nx top)=true->yo t l->yE s.h o->C ⟨f,aP l,nt,K,[],none⟩ (aj o nx) p->G ⟨f,t,nt,K,[],none⟩ s)->(∀f nt K t s l0 o0 l o nx p,E.fg=true->l0.map (fun q=>t.get q.1)=l0.map (fun q=>some q.2)->o0.map (fun q=>s.h.get q.1)=o0.map (fun q=>q.2)->gY E.F E.lo s.nx l0 o0 l o nx->C ⟨f,aP l,nt,K,[],none⟩ (aj o nx) p->G ⟨f,t,nt,K,[],none⟩ s)->(∀f nt K t s l o nx p,E.fg=true->qf top l=true->qf nx o=true->(Nat.ble nx s.nx&&(Nat.blt s.nx top&&Nat.ble E.lo nx))=true->yo t l->yE s.h o->yH nx l o->C ⟨f,aP l,nt,K,[],none⟩ (aj o nx) p->G ⟨f,t,nt,K,[],none⟩ s)->wp E fuel n c p rs k C->Gof E.P (bg E.P E.sp E.F n) G c
 |0,n,c,p,rs,k,C,G,hG,hk,hC,hL,hR,hB,h=>h.elim
 |fuel+1,n,c,p,rs,k,C,G,hG,hk,hC,hL,hR,hB,h=>by
  have ih:=D1 hE fuel;have h:RU E (wp E fuel) n c p rs k C:=h;unfold RU at h;cases c with
  |fr f nt K t s=>
   simp only at h;split at h
   ·obtain⟨x,s1,h1,h⟩:=He h;obtain⟨y,h2,h⟩:=bf h;rw[acu h2] at h1;exact hG _ _ _ _ _ h1<|ih n _ _ rs k C G hG hk hC hL hR hB h
   ·obtain⟨x,h1,h⟩:=bf h;obtain⟨id,rfl⟩:=abb h1;exact md.aj2 hG<|ih n _ _ rs k C G hG hk hC hL hR hB h
   ·obtain⟨x,s1,h1,h⟩:=He h;obtain⟨y,h2,h⟩:=bf h;obtain⟨v,s2,h3,h⟩:=He h;rw[acv h2] at h1;exact hk _ _ _ _ _ _ _ _ _ h1 h3 h
   ·exact hC _ _ _ h
   ·obtain⟨h1,h2,h3,h⟩:=gW h;obtain⟨q0,h1⟩:=and_true.1 h1;obtain⟨q1,h1⟩:=and_true.1 h1;obtain⟨q2,h1⟩:=and_true.1 h1;obtain⟨q3,q4⟩:=and_true.1 h1;exact hL _ _ _ _ _ _ _ _ _ q0 q1 q2 q3 (OM h2) (Pm h3 q4) h
   ·obtain⟨h1,h2,h3,h4,h⟩:=gW h;obtain⟨q0,q1⟩:=and_true.1 h1;have q1:=Nat.eq_of_beq_eq_true q1;rw[←q1] at h4;exact hR _ _ _ _ _ _ _ _ _ _ _ q0 h2 h3 h4 h
   ·obtain⟨h1,h2,h3,h4,h⟩:=gW h;obtain⟨q0,h1⟩:=and_true.1 h1;obtain⟨q1,h1⟩:=and_true.1 h1;obtain⟨q2,h1⟩:=and_true.1 h1;obtain⟨q3,q4⟩:=and_true.1 h1;exact hB _ _ _ _ _ _ _ _ _ q0 q1 q2 q3 (OM h2) (Pm h3 q4) h4 h
   ·exact h.elim
  |rg f nt K ops D i t s=>
   simp only at h;split at h
   ·obtain⟨h1,h⟩:=gW h;obtain⟨x,s1,h2,h⟩:=He h;exact md.go h1 h2<|ih n _ _ rs k C G hG hk hC hL hR hB h
   ·obtain⟨h1,h⟩:=gW h;obtain⟨h2,h⟩:=gW h;exact md.done h1 h2<|ih n _ _ rs k C G hG hk hC hL hR hB h
   ·obtain⟨o,ho,h⟩:=bf h;obtain⟨hw,h⟩:=gW h;obtain⟨op,d,g⟩:=o;simp only at hw h;have hn:∀v s1 p,(dO E.P op).val (bg E.P E.sp E.F n) t (iE D s)= .ok v s1->(wo (jk nt t d v) fun t1=>wp E fuel n (.rg f nt K ops (LY D i s s1) (i+1) t1<|Fl D s s1) p rs k C)->md E.P (bg E.P E.sp E.F n) G f nt K ops D i t s:=by intro v s1 p hv h;obtain⟨t1,hp,h⟩:=bf h;exact md.op ho hw hv hp (ih n _ _ rs k C G hG hk hC hL hR hB h)
    generalize cJ:(fun(v:AV) (s1:AS) (p:Pl)=>wo (jk nt t d v) fun t1=>wp E fuel n (.rg f nt K ops (LY D i s s1) (i+1) t1<|Fl D s s1) p rs k C)=nx at h;have hn:∀v s1 p,(dO E.P op).val (bg E.P E.sp E.F n) t (iE D s)= .ok v s1->nx v s1 p->md E.P (bg E.P E.sp E.F n) G f nt K ops D i t s:=by intro v s1 p hv h;rw[←cJ] at h;exact hn v s1 p hv h
    have kz:∀v h2 R W p,((D.isSome&&Nat.beq s.mark 0)||Nat.beq (iE D s).mark 0)=true->(∃rd wr,(∀k∈rd,k∈R\/k∈(iE D s).rd)/\(∀k∈wr,k∈W\/k∈(iE D s).wr)/\((iE D s).mark=0->rd=(iE D s).rd/\wr=(iE D s).wr)/\
     (dO E.P op).val (bg E.P E.sp E.F n) t (iE D s)= .ok v ⟨h2,(iE D s).nx+1,(iE D s).mark,rd,wr⟩)->nx v (LZ (D.isSome&&Nat.beq s.mark 0) (iE D s) h2 R W) p->md E.P (bg E.P E.sp E.F n) G f nt K ops D i t s:=by
     rintro v h2 R W p cZ ⟨rd,wr,a1,a2,a3,hv⟩ h;cases RV:(D.isSome&&Nat.beq s.mark 0) with
     |false=>rw[RV] at cZ h;have AQ:=Nat.eq_of_beq_eq_true (show Nat.beq (iE D s).mark 0=true from cZ);obtain⟨rfl,rfl⟩:=a3 AQ;exact hn _ _ _ hv h
     |true=>
      rw[RV] at h;obtain⟨RX,hd2⟩:=and_true.1 RV;cases D with
      |none=>cases RX
      |some acc=>
       have hm:s.mark=0:=Nat.eq_of_beq_eq_true hd2;have a1:∀k∈rd,k∈R:=fun k hk=>(a1 k hk).resolve_right (by show ¬k∈([]:List Nat);simp);have a2:∀k∈wr,k∈W:=fun k hk=>(a2 k hk).resolve_right (by show ¬k∈([]:List Nat);simp);have h:nx v ⟨h2,(iE (some acc) s).nx+1,(iE (some acc) s).mark,R,W⟩ p:=h;rw[←cJ] at h;obtain⟨t1,hp,h⟩:=bf h;refine md.op ho hw hv hp ?_;have H:=ih n _ _ rs k C G hG hk hC hL hR hB h;have e:Fl (some acc) s ⟨h2,(iE (some acc) s).nx+1,(iE (some acc) s).mark,rd,wr⟩=Fl (some acc) s ⟨h2,(iE (some acc) s).nx+1,(iE (some acc) s).mark,R,W⟩:=by show EO s _=EO s _;unfold EO;rw[hm,Js,Js,Js,Js]
       rw[e];exact rh.cover (Q0:=acc++[LX i s ⟨h2,(iE (some acc) s).nx+1,(iE (some acc) s).mark,R,W⟩]) (nB.app (nB.refl acc) ⟨⟨rfl,fun n h=>Ul a1 n h,fun n h=>Ul a2 n h,rfl,rfl⟩,trivial⟩) H
    show md E.P (bg E.P E.sp E.F n) G f nt K ops D i t s;unfold Zo at h;split at h
    ·obtain⟨x,h1,h⟩:=bf h;obtain⟨a,h2,h⟩:=bf h;obtain⟨b,h3,h⟩:=bf h;obtain⟨a1,h4,h⟩:=bf h;obtain⟨b1,h5,h⟩:=bf h;obtain⟨h6,h⟩:=gW h;obtain⟨c,h7,hy,mm⟩:=bf h;have h6:=of_decide_eq_true h6;have e:=S3 h1;rw[rO h4] at h2;rw[rO h5, ←h6] at h3;obtain⟨r,hr,Zp⟩:=aeX h7;have hv:(dO E.P op).val (bg E.P E.sp E.F n) t (iE D s)= .ok (.bool r) (iE D s):=by rw[e];exact agB h2 h3 hr
     cases r with
     |true=>exact hn _ _ _ hv<|hy<|Zp.1 rfl
     |false=>exact hn _ _ _ hv (mm fun q=>by have:=Zp.2 q;cases this)
    ·obtain⟨v',s1,h1,rfl,h⟩:=He h;exact hn _ _ _ h1 h
    ·obtain⟨x,h1,h⟩:=bf h;obtain⟨m,hm,h⟩:=bf h;obtain⟨val,h2,h⟩:=bf h;obtain⟨h3,h4,h⟩:=gW h;have e:=Gw hm;exact hn _ _ _ (by rw[e];exact Br h1<|hE.uX _ _ _ _ _ _ h2 h4 h3) h
    ·obtain⟨x,h1,h⟩:=bf h;obtain⟨m,hm,h⟩:=bf h;obtain⟨val,h2,h⟩:=bf h;obtain⟨h3,h4,hy,mm⟩:=gW h;have e:=Gw hm;have hv:=fun b (h4:val x.2=some (.bool b))=>(show(dO E.P op).val (bg E.P E.sp E.F n) t (iE D s)= .ok (.bool b) (E.cs<|iE D s) by rw[e];exact Br (P:=E.P) h1<|hE.uX _ _ _ _ _ m h2 h4 h3);exact adG h4 hy mm (fun q h=>hn _ _ _ (hv _ q) h) fun q h=>hn _ _ _ (hv _ q) h
    ·obtain⟨x,h1,h2,h⟩:=bf h;exact hn _ _ _ (Br h1 h2) h
    ·obtain⟨x,h1,h2,h3,h⟩:=bf h;exact hn _ _ _ (Br h1<|h2 _ h3) h
    ·obtain⟨x,h1,h⟩:=bf h;obtain⟨a,h2,h⟩:=bf h;obtain⟨a',h3,h⟩:=bf h;obtain⟨b,h4,h⟩:=bf h;obtain⟨m,h5,h⟩:=bf h;obtain⟨i1,h6,h⟩:=bf h;obtain⟨hb,k1,k2,k3,k4,k5,k6,k7,h⟩:=gW h;obtain⟨b1,hb⟩:=and_true.1 hb;obtain⟨b0,hb⟩:=and_true.1 hb;obtain⟨b2,hb⟩:=and_true.1 hb;obtain⟨b3,hb⟩:=and_true.1 hb;obtain⟨b4,b5⟩:=and_true.1 hb;have b1:=Nat.eq_of_beq_eq_true b1;obtain⟨ty,e,e1,e2,e3,e4,e5⟩:=Jg h6;cases iI:E.P.info? e with
     |none=>rw[iI] at e3;cases e3
     |some i0=>rw[iI] at e3;simp only[Option.map_some,Option.some.injEq,Prod.mk.injEq] at e3;obtain⟨q1,q2,q3⟩:=e3;rw[adF h3,k1,k2,b1, ←q1] at h2;rw[abG h5] at h4;rw[←q1] at k5 k7 h b0;rw[←q2] at k6 e5;refine kz _ _ _ _ _ b5 ?_ h;rw[Jf h1];obtain⟨rd,wr,d1,d2,d3,d4⟩:=agH h2 h4 e1 e2 iI (by rw[q3,e4];rfl) k3 k4 (by rw[b2,b3,b4];rfl) k5 ((blt_eq _ _).mp b0) e5 k6 k7;exact⟨rd,wr,fun k hk=>by rcases d1 k hk with rfl|rfl|h;exact .inl jI;exact .inl jI;exact .inr h,fun k hk=>by rcases d2 k hk with rfl|h;exact .inl jI;exact .inr h,d3,d4⟩
    ·obtain⟨x,h1,h⟩:=bf h;obtain⟨a,h2,h⟩:=bf h;obtain⟨a',h3,h⟩:=bf h;obtain⟨ad,h4,h⟩:=bf h;obtain⟨z,h5,h⟩:=bf h;obtain⟨z',h6,h⟩:=bf h;obtain⟨K1,h7,h⟩:=bf h;obtain⟨h8,h9,gH,h⟩:=gW h;refine hn _ _ _ ?_ h;rw[Nn h1];rw[aba h3,h4] at h2;obtain⟨n0,o0⟩:=ad;have h8:o0=0:=Nat.eq_of_beq_eq_true h8;subst h8;rw[rO h6] at h5;exact ah4 h2 h5 h7 h9 gH
    ·obtain⟨x,h1,h⟩:=bf h;obtain⟨a,h2,h⟩:=bf h;obtain⟨a',h3,h⟩:=bf h;obtain⟨z,h5,h⟩:=bf h;obtain⟨z',h6,h⟩:=bf h;obtain⟨K1,h7,h9,gH,h⟩:=bf h;refine hn _ _ _ ?_ h;rw[Nn h1];rw[N8 h3] at h2;rw[rO h6] at h5;exact agN h2 h5 h7 h9 gH
    ·obtain⟨x,h1,h⟩:=bf h;obtain⟨a,h2,h⟩:=bf h;obtain⟨a',h3,h⟩:=bf h;obtain⟨ag,h4,h⟩:=bf h;obtain⟨k1,h5,h⟩:=bf h;obtain⟨h6,h⟩:=gW h;obtain⟨h7,h⟩:=gW h;obtain⟨v,h8,h9,h⟩:=bf h;refine hn _ _ _ ?_ h;rw[Jb h1];rw[Jr h3] at h2;exact Qv h2 h4 h5 h6 h7 h8 h9
    ·obtain⟨x,h1,h⟩:=bf h;obtain⟨a,h2,h⟩:=bf h;obtain⟨a',h3,h⟩:=bf h;obtain⟨ag,h4,h⟩:=bf h;obtain⟨h5,h⟩:=gW h;obtain⟨h7,h8,hy,mm⟩:=gW h;have h5:ag=false:=by simpa using h5
     subst h5;rw[Jr h3] at h2;exact acw hy mm (fun e h=>hn _ _ _ (by rw[Jb h1];exact Qv h2 h4 rfl rfl h7 rfl<|by rw[h8,e]) h) fun e h=>hn _ _ _ (by rw[Jb h1];exact Qv h2 h4 rfl rfl h7 rfl<|by rw[h8,e]) h
    ·obtain⟨x,h1,h⟩:=bf h;obtain⟨a,h2,h⟩:=bf h;obtain⟨a',h3,h⟩:=bf h;obtain⟨ag,h4,h⟩:=bf h;obtain⟨z,hz,h⟩:=bf h;obtain⟨k1,h5,h⟩:=bf h;obtain⟨v,h8,h9,gH,h⟩:=bf h;refine hn _ _ _ ?_ h;rw[Jb h1];rw[abH h3] at h2;exact agP h2 h4 hz h5 h8 h9 gH
    ·obtain⟨x,h1,h⟩:=bf h;obtain⟨a,h2,h⟩:=bf h;obtain⟨a',h3,h⟩:=bf h;obtain⟨v,h4,h⟩:=bf h;obtain⟨k1,h5,h⟩:=bf h;obtain⟨h6,h⟩:=gW h;obtain⟨h7,h⟩:=gW h;obtain⟨h8,h⟩:=gW h;obtain⟨h9,gH,h⟩:=gW h;refine hn _ _ _ ?_ h;rw[aaw h1];rw[Jr h3] at h2;exact agO h2 h4 h5 h6 h7 h8 h9 gH
    ·obtain⟨x,h1,h⟩:=bf h;obtain⟨h6,h⟩:=gW h;obtain⟨a,h2,h⟩:=bf h;obtain⟨b,h3,h⟩:=bf h;obtain⟨a1,h4,h⟩:=bf h;obtain⟨b1,h5,h⟩:=bf h;obtain⟨h8,h7,h⟩:=gW h;have ea:x.1= .rem:=by revert h6;split<;>intro h6<;>first|assumption|cases h6
     have h8:=of_decide_eq_true h8;refine hn _ _ _ ?_ h;rw[S3 h1];rw[rO h4] at h2;rw[rO h5, ←h8] at h3;exact ah5 ea h2 h3 h7
    ·obtain⟨x,h1,h⟩:=bf h;obtain⟨a,h2,h⟩:=bf h;obtain⟨a',h3,h⟩:=bf h;obtain⟨b,h4,h⟩:=bf h;obtain⟨b',h5,h⟩:=bf h;obtain⟨i1,h6,h⟩:=bf h;obtain⟨hb,k1,k2,k3,k4,k5,k6,k7,k8,h⟩:=gW h;obtain⟨b1,hb⟩:=and_true.1 hb;obtain⟨b2,hb⟩:=and_true.1 hb;obtain⟨b3,b4⟩:=and_true.1 hb;obtain⟨ty,e,e1,e2,e3,e4,e5⟩:=Jg h6;cases iI:E.P.info? e with
     |none=>rw[iI] at e3;cases e3
     |some i0=>rw[iI] at e3;simp only[Option.map_some,Option.some.injEq,Prod.mk.injEq] at e3;obtain⟨q1,q2,q3⟩:=e3;rw[BB h3] at h2;rw[N8 h5] at h4;rw[←q1] at k4 k6 k8 h b1;rw[←q2] at k7 e5;refine kz _ _ _ _ _ b4 ?_ h;rw[Jf h1];obtain⟨rd,wr,d1,d2,d3,d4⟩:=agG (s:=iE D s) (SI:=bg E.P E.sp E.F n) h2 k1 h4 e1 e2 iI (by rw[q3,e4];rfl) b1 k3 (fun s'=>adH k4) k5 k2 (by rw[b2,b3];rfl) k6 e5 k7 k8;exact⟨rd,wr,fun k hk=>by rcases d1 k hk with rfl|h;exact .inl jI;exact .inr h,fun k hk=>by rcases d2 k hk with rfl|h;exact .inl jI;exact .inr h,d3,d4⟩
    ·obtain⟨x,h1,h⟩:=bf h;obtain⟨a,h2,h⟩:=bf h;obtain⟨a',h3,h⟩:=bf h;obtain⟨K1,h4,h⟩:=bf h;obtain⟨mL,h5,h⟩:=bf h;obtain⟨iI,h6,h7,h8,h9,k1,k2,k3,h⟩:=bf h;subst h7;subst h8;rw[N8 h3] at h2;refine hn _ _ _ ?_ h;rw[SM h1];exact ah6 h2 h4 h5 h6 h9 k1 k2 k3
    ·obtain⟨x,h1,h2,h⟩:=bf h;exact hn _ _ _ (abF h1 h2) h
    ·obtain⟨x,h1,h⟩:=bf h;obtain⟨a,h2,h⟩:=bf h;obtain⟨a',h3,h⟩:=bf h;obtain⟨z,h5,h⟩:=bf h;obtain⟨z',h6,h⟩:=bf h;obtain⟨K1,h7,h9,gH,h⟩:=bf h;refine hn _ _ _ ?_ h;rw[Nn h1];rw[Jr h3] at h2;rw[rO h6] at h5;exact agM h2 h5 h7 h9 gH
    ·obtain⟨x,h1,h⟩:=bf h;obtain⟨m,hm,h⟩:=bf h;obtain⟨q,h2,h⟩:=bf h;obtain⟨z,h3,h⟩:=bf h;obtain⟨u,h4,h⟩:=bf h;obtain⟨h5,h6,h⟩:=gW h;obtain⟨c1,h5⟩:=and_true.1 h5;obtain⟨c2,h5⟩:=and_true.1 h5;obtain⟨c3,h5⟩:=and_true.1 h5;obtain⟨c4,c5⟩:=and_true.1 h5;have e:=Gw hm;have c2:q.1=u.1:=Nat.eq_of_beq_eq_true c2;refine hn _ _ _ ?_ h;rw[e];refine Br h1 ?_;rw[abc h3];exact hE.tt _ _ _ _ _ _ _ _ _ h2 c1 c3 c4 c5 (by rw[acx h4,c2]) h6
    ·obtain⟨x,h1,h⟩:=bf h;obtain⟨m,hm,h⟩:=bf h;obtain⟨q,h2,h⟩:=bf h;obtain⟨h5,h6,h⟩:=gW h;obtain⟨c1,c2⟩:=and_true.1 h5;have e:=Gw hm;refine hn _ _ _ ?_ h;rw[e];exact Br h1<|hE.tn _ _ _ _ _ _ _ h2 c1 c2 h6
    ·obtain⟨x,h1,h⟩:=bf h;obtain⟨a,h2,h⟩:=bf h;obtain⟨n',h3,h⟩:=bf h;obtain⟨i',h4,h⟩:=bf h;obtain⟨i1,h5,h⟩:=bf h;obtain⟨y,h6,h⟩:=bf h;obtain⟨hb,h7,h8,h9⟩:=gW h;obtain⟨b1,hb⟩:=and_true.1 hb;obtain⟨b2,hb⟩:=and_true.1 hb;obtain⟨b3,hb⟩:=and_true.1 hb;obtain⟨b4,b5⟩:=and_true.1 hb;rw[Uk h3] at h2;rw[rO h5,N7 b3] at h4;have key:=agI (P:=E.P) (SI:=bg E.P E.sp E.F n) h2 h4 (TE h6) b1 b2 (adE b4) h7 b5;rw[←aav h1] at key;cases hq:lM _ i1.2 with
     |true=>rw[hq,if_pos rfl] at key;exact hn _ _ _ key<|h8 hq
     |false=>rw[hq,if_neg (by intro e;cases e)] at key;exact hn _ _ _ key<|h9 hq
    ·obtain⟨x,h1,h⟩:=bf h;obtain⟨a,h2,h⟩:=bf h;obtain⟨n',h3,h⟩:=bf h;obtain⟨i',h4,h⟩:=bf h;obtain⟨i1,h5,h⟩:=bf h;obtain⟨v',h8,h⟩:=bf h;obtain⟨v1,h9,h⟩:=bf h;obtain⟨y,h6,h⟩:=bf h;obtain⟨hb,h7,h⟩:=gW h;obtain⟨b1,hb⟩:=and_true.1 hb;obtain⟨b2,hb⟩:=and_true.1 hb;obtain⟨b3,hb⟩:=and_true.1 hb;obtain⟨b4,hb⟩:=and_true.1 hb;obtain⟨b5,b6⟩:=and_true.1 hb;refine hn _ _ _ ?_ h;rw[aaR h1];rw[Uk h3] at h2;rw[rO h5,N7 b3] at h4;rw[rO h9,N7 b4] at h8;exact agJ h2 h4 h8 (TE h6) b1 b2 h7 b5 b6
    ·obtain⟨x,h1,h⟩:=bf h;obtain⟨a,h2,h⟩:=bf h;obtain⟨a',h3,h⟩:=bf h;obtain⟨K1,h4,h⟩:=bf h;obtain⟨mL,h5,h⟩:=bf h;obtain⟨iI,h6,h⟩:=bf h;obtain⟨h7,h8,h9,k1,hz⟩:=gW h;rw[h8] at h5;rw[BB h3] at h2;refine hn _ _ _ ?_ hz;rw[SM h1];exact ah7 h2 h4 h5 h6 h7 h9 k1
    ·obtain⟨x,h1,h⟩:=bf h;obtain⟨a,h2,h⟩:=bf h;obtain⟨a',h3,h⟩:=bf h;obtain⟨K1,h4,h⟩:=bf h;obtain⟨hi,h5,h⟩:=bf h;obtain⟨iI,h6,h⟩:=bf h;obtain⟨mx,h7,h⟩:=bf h;obtain⟨FL,h8,h⟩:=bf h;obtain⟨h9,k1,k2,k3,h⟩:=gW h;rw[BB h3] at h2;rw[rO h6] at h5;rw[rO h8] at h7;refine hn _ _ _ ?_ h;rw[aaq h1];exact ah8 h2 h4 h5 h7 h9 k1 k2 k3
    ·obtain⟨x,h1,h⟩:=bf h;obtain⟨a,h2,h⟩:=bf h;obtain⟨a',h3,h⟩:=bf h;obtain⟨b,h4,h⟩:=bf h;obtain⟨b',h5,h⟩:=bf h;obtain⟨i1,h6,h⟩:=bf h;obtain⟨hb,k0,k1,k2,k3,k4,k5,k6,k7,k8,k9,sS,y9,h⟩:=gW h;obtain⟨b1,hb⟩:=and_true.1 hb;obtain⟨b2,hb⟩:=and_true.1 hb;obtain⟨b3,b4⟩:=and_true.1 hb;obtain⟨ty,e,e1,e2,e3,e4,e5⟩:=Jg h6;cases iI:E.P.info? e with
     |none=>rw[iI] at e3;cases e3
     |some i0=>rw[iI] at e3;simp only[Option.map_some,Option.some.injEq,Prod.mk.injEq] at e3;obtain⟨q1,q2,q3⟩:=e3;rw[BB h3,k0] at h2;rw[BB h5] at h4;rw[←q1] at k6 k7 k8 h;rw[←q2] at sS e5;refine kz _ _ _ _ _ b4 ?_ h;rw[Jf h1];obtain⟨rd,wr,d1,d2,d3,d4⟩:=agK (s:=iE D s) (SI:=bg E.P E.sp E.F n) h2 h4 e1 e2 iI (by rw[q3,e4];rfl) k1 k2 k3 k4 k5 k6 k7 k8 (by rw[b1,b2,b3];rfl) k9 e5 sS y9;exact⟨rd,wr,fun k hk=>by rcases d1 k hk with rfl|rfl|h;exact .inl jI;exact .inl jI;exact .inr h,fun k hk=>.inr<|d2 k hk,d3,d4⟩
    ·obtain⟨x,h1,h⟩:=bf h;obtain⟨a,h2,h⟩:=bf h;obtain⟨a',h3,h⟩:=bf h;obtain⟨b,h4,h⟩:=bf h;obtain⟨b',h5,h⟩:=bf h;obtain⟨i1,h6,h⟩:=bf h;obtain⟨hb,k0,kk,k1,k2,k3,k4,k5,k6,k7,k8,k9,sS,y9,h⟩:=gW h;obtain⟨b0,hb⟩:=and_true.1 hb;obtain⟨b1,hb⟩:=and_true.1 hb;obtain⟨b2,b3⟩:=and_true.1 hb;obtain⟨ty,e,e1,e2,e3,e4,e5⟩:=Jg h6;cases iI:E.P.info? e with
     |none=>rw[iI] at e3;cases e3
     |some i0=>rw[iI] at e3;simp only[Option.map_some,Option.some.injEq,Prod.mk.injEq] at e3;obtain⟨q1,q2,q3⟩:=e3;rw[BB h3,k0] at h2;rw[BB h5] at h4;rw[←q1] at k6 k7 k8 h b0;rw[←q2] at sS e5;refine hn _ _ _ ?_ h;rw[Jf h1];exact agL (s:=iE D s) (SI:=bg E.P E.sp E.F n) h2 h4 e1 e2 iI (by rw[q3,e4];rfl) kk k1 (by unfold yp at b0;exact(blt_eq _ _).mp b0) k2 k3 k4 k5 k6 k7 k8 (by rw[b1,b2,b3];rfl) k9 e5 sS y9
    ·obtain⟨x,h1,h⟩:=bf h;obtain⟨m,hm,h⟩:=bf h;have e:=Gw hm;split at h
     ·exact h.elim
     ·rename_i uY;obtain⟨fn,ch,h⟩:=bf h;obtain⟨body,cw,h⟩:=bf h;obtain⟨dD,h⟩:=gW h;obtain⟨pd,h⟩:=gW h;have dD:(fn.name == "runtime.NumGoroutine")=false:=by simpa using dD
      have H:=ih m _ _ _ nx (fun _ _ _=>False) (Ev E.P (bg E.P E.sp E.F m) fun aQ jm s1=>∃v s2 p,finish E.P fn.results.toList aQ jm s1= .ok v s2/\nx v s2 p) Chunk.ev (fun fr s j aQ jm s1 v s2 p q1 q2 q3=>⟨j,aQ,jm,s1,q1,v,s2,p,q2,q3⟩) (fun _ _ _ q=>q.elim) (fun _ _ _ _ _ _ _ _ _ _ _ _ _ _ _ q=>q.elim) (fun _ _ _ _ _ _ _ _ _ _ _ _ _ _ _ q=>q.elim) (fun _ _ _ _ _ _ _ _ _ _ _ _ _ _ _ _ q=>q.elim) h;obtain⟨j,aQ,jm,s1,q1,v,s2,p,q2,q3⟩:=H;refine hn _ _ _ (Br h1 ?_) q3;rw[e];show j0 E.P E.sp x.1 (bg E.P E.sp E.F m) x.2 _=_;rw[OK uY ch cw dD];unfold vH;rw[pd,dz,M.bN<|JB q1];exact q2
    ·exact h.elim
theorem ax{B:Prop}(c:Prop)(x:c->A)(y:¬c->B):(c->A)/\(¬c->B):=⟨x,y⟩
theorem av.back{P:Program}{s:AS}{t:Tr AV}{nt f:Nat}{K:List Item}{o:List<|Nat×Option ae}{nx:Nat}(hl:qf top l=true)(ho:qf nx o=true)(hn:(Nat.ble nx s.nx&&(Nat.blt s.nx top&&Nat.ble U nx))=true)(hg:fH<=U)(ht:yo t l)(hh:yE s.h o)(he:yH nx l o)(H:av P B U Q ⟨f,aP l,nt,K,[],none⟩<|aj o nx):av P B U Q ⟨f,t,nt,K,[],none⟩ s:=by
 obtain⟨n1,n2⟩:=and_true.1 hn;obtain⟨n2,n3⟩:=and_true.1 n2;have n1:=aL.1 n1;have n2:=(blt_eq _ _).mp n2;have n3:=aL.1 n3;let r:Nat->Nat:=fun k=>if k<nx\/top<=k then k else max k s.nx
 have r1:∀k,k<nx->r k=k:=fun k hk=>by show(if _ then _ else _)=_;rw[if_pos<|.inl hk]
 have r2:∀k,top<=k->r k=k:=fun k hk=>by show(if _ then _ else _)=_;rw[if_pos<|.inr hk]
 obtain⟨e1,e2⟩:=he r r1 r2;refine av.weaken (s2:=aj o nx) (t2:=aP l) [] r (fun k hk=>r1 k ak) (fun k hk ht=>?_) r2 hg ⟨Nat.zero_le _,by show nx<=top;omega⟩ rfl rfl (fun _ h=>by cases h) (fun i y hy=>?_) (fun n o2 hn hg=>?_) (fun _ h=>by cases h) (fun n m x y hn hm h1 h2 e=>?_) H
 ·have rp:nx<=k:=hk;show s.nx<=(if _ then _ else _)/\(if _ then _ else _)<top;rw[if_neg ak];omega
 ·have hm:=GO (fun p hp=>xE hl p hp) hy;exact⟨y,ht.mem _ hm,(e1 _ hm).z⟩
 ·have cY:∀p∈o,p.1<top:=fun p hp=>by have:=xE ho p hp;omega
  have hm:=xD cY hg;obtain⟨h1,h2⟩:=hh.mem _ hm;have cF:n<nx:=xE ho _ hm;rw[r1 n cF];exact⟨hn,.inl<|h2 o2 rfl,o2,h1,fm.refl _,(e2 _ hm o2 rfl).z⟩
 ·have cY:∀p∈o,p.1<top:=fun p hp=>by have:=xE ho p hp;omega
  have a1:n<nx:=xE ho _<|xD cY h1;have a2:m<nx:=xE ho _<|xD cY h2;rw[r1 n a1,r1 m a2] at e;exact e
theorem av.rn{P:Program}{s:AS}{t:Tr AV}{nt f:Nat}{K:List Item}{l0:List<|Nat×AV}{o0 o:List<|Nat×Option ae}{nx:Nat}(hg:fH<=U)(h1:l0.map (fun q=>t.get q.1)=l0.map (fun q=>some q.2))(h2:o0.map (fun q=>s.h.get q.1)=o0.map (fun q=>q.2))(hw:gY B.F U s.nx l0 o0 l o nx)(H:av P B U Q ⟨f,aP l,nt,K,[],none⟩<|aj o nx):av P B U Q ⟨f,t,nt,K,[],none⟩ s:=by
 obtain⟨fz,r,r1,r2,r3,r4,r5,r6,r7,r8,r9⟩:=hw;have hs:∀(l0:List<|Nat×AV),l0.map (fun q=>t.get q.1)=l0.map (fun q=>some q.2)->∀p∈l0,t.get p.1=some p.2:=by
  intro l0;induction l0 with
  |nil=>intro _ p hp;cases hp
  |cons a l ih=>
   intro h p hp;simp only[List.map_cons,List.cons.injEq] at h;rcases List.mem_cons.1 hp with rfl|hp
   ·exact h.1
   ·exact ih h.2 p hp
 have ho:∀(o0:List<|Nat×Option ae),o0.map (fun q=>s.h.get q.1)=o0.map (fun q=>q.2)->∀p∈o0,s.h.get p.1=p.2:=by
  intro o0;induction o0 with
  |nil=>intro _ p hp;cases hp
  |cons a l ih=>
   intro h p hp;simp only[List.map_cons,List.cons.injEq] at h;rcases List.mem_cons.1 hp with rfl|hp
   ·exact h.1
   ·exact ih h.2 p hp
 have za:∀n y,n<top->(fL o).get n=some y->(n,some y)∈o:=fun n y hn hg=>xD (fun p hp=>(r6 p hp).1) hg;refine av.weaken (s2:=aj o nx) (t2:=aP l) fz r r1 (fun k hk ht=>r2 k hk ht) r3 hg ⟨Nat.zero_le _,r4⟩ rfl rfl (fun p hp=>?_) (fun i y hy=>?_) (fun n y hn hg=>?_) (fun p hp n y hn hg=>?_) (fun n m x y hn hm e1 e2 e=>?_) H
 ·obtain⟨q1,q2,N,t',z,q3,q4⟩:=r8 p hp;exact⟨q1,q2,N,t',z,ho o0 h2 _ q3,fun i x hx=>by obtain⟨i1,i2,i3,i4⟩:=q4 i x hx;exact⟨i1,i2,i3,fun ρ v hv=>AV.tY agF i4 hv⟩⟩
 ·have hm:=GO (fun p hp=>(r5 p hp).1) hy;obtain⟨_,x,hx,hv⟩:=r5 _ hm;exact⟨x,hs l0 h1 _ hx,hv⟩
 ·obtain⟨_,q⟩:=r6 _<|za n y hn hg;obtain⟨q1,q2,x,q3,q4,q5⟩:=q y rfl;exact⟨q1,.inl q2,x,ho o0 h2 _ q3,q4,q5⟩
 ·exact r9 p hp _ (za n y hn hg) jI
 ·exact r7 _ (za n x hn e1) _ (za m y hm e2) jI jI e
theorem x8{E:Env}(hE:E.Ok){P:Program}(hP:E.P=P){f nt:Nat}{t:Tr AV}{K:List Item}{s:AS}{R:AV->AS->Prop}(bT:P.follows .mixedOrders=true)(hc:fR P B<|bg E.P E.sp E.F n)(hl:∀t a,SH<|bg E.P E.sp E.F n t a)(hg:fH<=U)(gI:E.lo=U)(hF:B.F=E.F){C:Ay}(hC:∀fr s p,C fr s p->av P B U (Fin P rs R) fr s)(fuel:Nat)(p:Pl)(x:T)(h:T=wp E fuel n (.fr f nt K t s) p rs (fun v s _=>R v s) C:=by as_aux_lemma=>kernel_rfl)(h0:Nat.ble U s.nx=true:=by as_aux_lemma=>kernel_rfl):av P B U (Fin P rs R) ⟨f,t,nt,K,[],none⟩ s:=by
 subst hP;have H:=D1 hE fuel n (.fr f nt K t s) p rs (fun v s _=>R v s) C (Ax E.P B U<|Fin E.P rs R) (Chunk.FZ bT hc hl)
  (fun fr s j aQ jm s1 v s2 p q1 q2 q3 h0=>av.leave bT hc hl q1 h0 ⟨v,s2,by rw[←Gu];exact q2,q3⟩) (fun fr s p q _=>hC fr s p q)
  (fun f nt K t s l o nx p _ q1 q2 q3 q4 q5 q6 _=>av.less q1 q2 q3 hg q4 q5<|hC _ _ _ q6) (fun f nt K t s l0 o0 l o nx p _ q1 q2 q3 q4 _=>av.rn hg q1 q2 (by rw[←gI,hF];exact q3)<|hC _ _ _ q4) (fun f nt K t s l o nx p _ q1 q2 q3 q4 q5 q6 q7 _=>av.back q1 q2 (by rw[←gI];exact q3) hg q4 q5 q6<|hC _ _ _ q7) (h▸x)
 exact Ax.start h0 H
theorem l6{E:Env}(hE:E.Ok){P:Program}(hP:E.P=P){f nt:Nat}{t:Tr AV}{K:List Item}{s:AS}{R:AV->AS->Prop}(bT:P.follows .mixedOrders=true)(hc:fR P B<|bg E.P E.sp E.F n)(hl:∀t a,SH<|bg E.P E.sp E.F n t a)(fuel:Nat)(p:Pl)(x:T)(h:T=wp E fuel n (.fr f nt K t s) p rs (fun v s _=>R v s) (fun _ _ _=>False):=by as_aux_lemma=>kernel_rfl)(h0:Nat.ble U s.nx=true:=by as_aux_lemma=>kernel_rfl):av P B U (Fin P rs R) ⟨f,t,nt,K,[],none⟩ s:=by subst hP;have H:=D1 hE fuel n (.fr f nt K t s) p rs (fun v s _=>R v s) (fun _ _ _=>False) (Ax E.P B U<|Fin E.P rs R) (Chunk.FZ bT hc hl) (fun fr s j aQ jm s1 v s2 p q1 q2 q3 h0=>av.leave bT hc hl q1 h0 ⟨v,s2,by rw[←Gu];exact q2,q3⟩) (fun _ _ _ q=>q.elim) (fun _ _ _ _ _ _ _ _ _ _ _ _ _ _ _ q=>q.elim) (fun _ _ _ _ _ _ _ _ _ _ _ _ _ _ _ q=>q.elim) (fun _ _ _ _ _ _ _ _ _ _ _ _ _ _ _ _ q=>q.elim)<|h▸x;exact Ax.start h0 H
def mP(E:Env)(n:Nat)(rs:List ResultVar)(R:AV->AS->Prop)(fr:AF)(s:AS):Prop:=Ev E.P (bg E.P E.sp E.F n) (fun aQ jm s1=>∃v s2,finish E.P rs aQ jm s1= .ok v s2/\R v s2) fr s
theorem v8{E:Env}(hE:E.Ok)(uZ:E.fg=false){f nt:Nat}{t:Tr AV}{K:List Item}{s:AS}{R:AV->AS->Prop}{C:Ay}(hC:∀fr s p,C fr s p->mP E n rs R fr s)(fuel:Nat)(p:Pl)(x:T)(h:T=wp E fuel n (.fr f nt K t s) p rs (fun v s _=>R v s) C:=by as_aux_lemma=>kernel_rfl):mP E n rs R ⟨f,t,nt,K,[],none⟩ s:=D1 hE fuel n (.fr f nt K t s) p rs (fun v s _=>R v s) C (mP E n rs R) Chunk.ev (fun fr s j aQ jm s1 v s2 p q1 q2 q3=>⟨j,aQ,jm,s1,q1,v,s2,q2,q3⟩) hC (fun _ _ _ _ _ _ _ _ _ q=>by rw[uZ] at q;cases q) (fun _ _ _ _ _ _ _ _ _ _ _ q=>by rw[uZ] at q;cases q) (fun _ _ _ _ _ _ _ _ _ q=>by rw[uZ] at q;cases q)<|h▸x
theorem mP.call{E:Env}{g:Nat}{fn:Func}{body:Code}{args:List AV}{s:AS}{R:AV->AS->Prop}(ch:E.P.funcs[g]? =some fn)(cw:fn.body=some body)(H:mP E n fn.results.toList R ⟨g,dZ args,max fn.ntmps args.length,[.code body],[],none⟩ s)(h0:((fn.name == "runtime.NumGoroutine"),(E.sp g).isNone,Nat.ble (max fn.ntmps args.length) top)=(false,true,true):=by as_aux_lemma=>kernel_rfl):∃v s2,bg E.P E.sp E.F (n+1) (.fn g) args s= .ok v s2/\R v s2:=by
 injection h0 with dD h0
 injection h0 with uY pd
 have aj3:E.sp g=none:=Option.isNone_iff_eq_none.1 uY;obtain⟨j,aQ,jm,s1,q1,v,s2,q2,q3⟩:=H;refine⟨v,s2,?_,q3⟩;show j0 E.P E.sp g (bg E.P E.sp E.F n) args s=_;rw[OK aj3 ch cw dD];unfold vH;rw[pd,dz,M.bN<|JB q1];exact q2
end Go.Rn
namespace Go.Rn
open Go.RowKit
variable {α:Type} {l:List α} {i K:Nat} {enc:α->List AV} {c c0 c':α} {r:List AV}
theorem tfb{A B:Prop}(b:Bool)(x:b=true->A)(y:b=false->B):(b=true->A)/\(b=false->B):=⟨x,y⟩
theorem nk(he:∀x,(enc x).length=K)(hl:l.length*K<=top)(hc:l[i]? =some c)(j k:Nat)(hj:Nat.ble (j+k) K=true):cellsOf (some<|aI enc l) (i*K+j) k=some (((enc c).drop j).take k):=by have wP:=aL.1 hj;obtain⟨q1,q2⟩:=VP he (k:=k) hc wP;show(match Nat.ble (i*K+j+k) (l.map enc).flatten.length with|true=>lY (Tr.fill (l.map enc).flatten 0 .nil) [] k (i*K+j)|false=>none)=_;rw[aL.2 q1];show lY (Tr.fill (l.map enc).flatten 0 .nil) [] k (i*K+j)=_;rw[Nw (by rw[zF he];exact hl) _ _ q1,q2]
theorem aeY(he:∀x,(enc x).length=K)(hl:l.length*K<=top)(hc:l[i]? =some c0)(j k:Nat)(hj:Nat.ble (j+k) K=true):cellsOf (some<|aI enc<|l.set i c) (i*K+j) k=some (((enc c).drop j).take k):=nk he (by rw[List.length_set];exact hl) (UZ hc) j k hj
theorem El(he:∀x,(enc x).length=K)(hl:l.length*K<=top)(hc:l[i]? =some c)(j:Nat)(hr:enc c'=iu (enc c) j r)(hj:Nat.ble (j+r.length) K=true)(h1:r.all AV.cj=true):v7 (some<|aI enc l) (i*K+j) r=some (aI enc<|l.set i c'):=by
 have wP:=aL.1 hj;obtain⟨q1,_⟩:=VP he (k:=r.length) hc wP;have HQ:=adB he hc hr wP;have hlen:(l.map enc).flatten.length<=top:=by rw[zF he];exact hl
 show(match (Nat.ble (i*K+j+r.length) (l.map enc).flatten.length&&(Nat.ble (l.map enc).flatten.length top&&r.all AV.cj)) with|true=>some (ae.cells (l.map enc).flatten.length (Tr.fill r (i*K+j)<|Tr.fill (l.map enc).flatten 0 .nil) [])|false=>none)=_;rw[show(Nat.ble (i*K+j+r.length) (l.map enc).flatten.length&&(Nat.ble (l.map enc).flatten.length top&&r.all AV.cj))=true from and_true.2 ⟨aL.2 q1,and_true.2 ⟨aL.2 hlen,h1⟩⟩];show some _=some _;congr 1;unfold aI;rw[Ui r _ _ q1 hlen,HQ,zF he,zF he,List.length_set]
theorem aeZ(he:∀x,(enc x).length=K)(hl:l.length*K<=top)(hc:l[i]? =some c0)(j:Nat)(hr:enc c'=iu (enc c) j r)(hj:Nat.ble (j+r.length) K=true)(h1:r.all AV.cj=true):v7 (some<|aI enc<|l.set i c) (i*K+j) r=some (aI enc<|l.set i c'):=by rw[El he (by rw[List.length_set];exact hl) (UZ hc) j hr hj h1,List.set_set]
end Go.Rn
namespace Go.Rn
open Go.RowKit
def H4(nx:Nat)(x:AV):Bool:=match x with
 | .ab n _ _=>Nat.blt n nx&&Nat.blt n top
 | .func (.func _) [] []=>true
 | .slice none 0 (.known 0)=>true
 |x=>x.flat
theorem bz.acy{r:Nat->Nat}{n o len:Nat}(e:r n=n)(h:n<top):bz r (.ab n o len)<|.ab n o len:=by intro ρ v k;simp only[VR] at k ⊢;exact k.imp id fun⟨b,sh,c,h1,h2⟩=>⟨b,sh,c,.inl ⟨by omega,(congrArg ρ e).trans<|h1.low ak⟩,h2⟩
theorem U3{nx:Nat}{x:AV}{r:Nat->Nat}(r1:∀k,k<nx->r k=k)(h:H4 nx x=true):bz r x x:=by
 unfold H4 at h;split at h
 ·obtain⟨h1,h2⟩:=and_true.1 h;exact bz.acy (r1 _<|(blt_eq _ _).mp h1)<|(blt_eq _ _).mp h2
 ·intro ρ v k;simp only[VR,az] at k ⊢;exact k
 ·exact bz.adz
 ·exact bz.flat h
noncomputable def H5(nx:Nat)(t:Tr AV):Nat->Bool
 |0=>true
 |n+1=>(match t.get n with|some x=>H4 nx x|none=>true)&&H5 nx t n
theorem Pn{nx:Nat}{t:Tr AV}:∀{n i:Nat} {x:AV},H5 nx t n=true->i<n->t.get i=some x->H4 nx x=true
 |0,_,_,_,h,_=>by omega
 |n+1,i,x,h,hi,hx=>by
  obtain⟨h1,h2⟩:=and_true.1 (show((match t.get n with|some x=>H4 nx x|none=>true)&&H5 nx t n)=true from h);by_cases q:i=n
  ·subst q;rw[hx] at h1;exact h1
  ·exact Pn h2 ak hx
noncomputable def Q1(nx:Nat)(o:ae):Bool:=match o with
 | .ro n t=>H5 nx t n
 | .uj n t=>H5 nx t n
 |_=>false
theorem adI{nx:Nat}{o:ae}{r:Nat->Nat}(r1:∀k,k<nx->r k=k)(h:Q1 nx o=true):sk r o o:=by
 unfold Q1 at h;split at h
 ·intro ρ N ob k;simp only[OR] at k ⊢;obtain⟨c,e,fr,k1,k2,k3,k4⟩:=k;exact⟨c,e,fr,k1,k2,k3,fun i hi=>let ⟨x,v,a1,a2,a3,a4⟩:=k4 i hi;⟨x,v,a1,a2,a3,U3 r1 (Pn h hi a1) ρ v a4⟩⟩
 ·intro ρ N ob k;simp only[OR] at k ⊢;obtain⟨c,e,fr,k1,k4⟩:=k;exact⟨c,e,fr,k1,fun i hi=>let ⟨x,v,a1,a2,a3,a4⟩:=k4 i hi;⟨x,v,a1,a2,a3,U3 r1 (Pn h hi a1) ρ v a4⟩⟩
 ·cases h
theorem GQ{nx:Nat}{o:List<|Nat×Option ae}{r:Nat->Nat}(r1:∀k,k<nx->r k=k)(h:(o.all fun p=>match p.2 with|some x=>Q1 nx x|none=>true)=true):∀p∈o,∀x,p.2=some x->sk r x x:=by intro p hp x hx;have:=List.all_eq_true.1 h p hp;rw[hx] at this;exact adI r1 this
end Go.Rn
namespace Go.Rn
theorem wU{α:Type}(enc:α->List AV)(l:List α)(c:α){K j8:Nat}{X:Prop}(h1:∀x,(enc x).length=K/\(enc x).all AV.cj=true)(h2:2*(l.length+1)*j8+4096*j8<=room)(h3:(l.length+1)*K<=Rn.top)(x:X):l.length=l.length/\l.length=l.length/\some (aI enc l)=some (aI enc l)/\some (ae.cells (enc c).length (Tr.fill (enc c) 0 .nil) [])=some (ae.cells (enc c).length (Tr.fill (enc c) 0 .nil) [])/\(∀x,(enc x).length=K/\(enc x).all AV.cj=true)/\2*(l.length+1)*j8+4096*j8<=room/\(l.length+1)*K<=Rn.top/\X:=⟨rfl,rfl,rfl,rfl,h1,h2,h3,x⟩
end Go.Rn
namespace Go.Rn
open Go.RowKit
variable {U K k:Nat} {α:Type} {ρ:aw} {v x:AV} {enc:α->List AV} {args cs:List AV} {w:World} {ns:List Nat} {h0 h:Tr ae} {B:aJ}
def qN:List Nat->Nat
 |[]=>0
 |x::l=>pr x<|qN l
theorem WW(a b:Nat):0<pr a b:=Nat.mul_pos (Nat.pow_pos ak) ak
theorem Od:∀{l m:List Nat},qN l=qN m->l=m
 |[],[],_=>rfl
 |[],x::m,h=>by have:=WW x<|qN m;simp only[qN] at h;omega
 |x::l,[],h=>by have:=WW x<|qN l;simp only[qN] at h;omega
 |x::l,y::m,h=>by obtain⟨h1,h2⟩:=fM (show pr x (qN l)=pr y (qN m) from h);rw[h1,Od h2]
def yq:Int->Nat
 | .ofNat n=>2*n
 | .negSucc n=>2*n+1
theorem acz:∀{a b:Int},yq a=yq b->a=b
 | .ofNat n,.ofNat m,h=>by have h:2*n=2*m:=h;rw[show n=m by omega]
 | .ofNat n,.negSucc m,h=>by have h:2*n=2*m+1:=h;omega
 | .negSucc n,.ofNat m,h=>by have h:2*n+1=2*m:=h;omega
 | .negSucc n,.negSucc m,h=>by have h:2*n+1=2*m+1:=h;rw[show n=m by omega]
def yr:AV->Nat
 | .bool b=>pr 0 b.toNat
 | .int k n=>pr 1<|pr k.ctorIdx<|yq n
 | .str s=>pr 2<|qN<|s.data.toList.map UInt8.toNat
 | .ab n o len=>pr 3<|pr n<|pr o len
 | .nilFunc=>pr 4 0
 | .nilIface=>pr 4 1
 | .ptr none=>pr 4 2
 | .map none=>pr 4 3
 |_=>0
def AV.gi(x:AV):Bool:=match x with
 | .bool _| .int _ _| .str _| .nilFunc| .nilIface| .ptr none| .map none=>true
 | .ab n _ _=>Nat.ble top n
 |_=>false
theorem adJ:∀{k l:IntKind},k.ctorIdx=l.ctorIdx->k=l:=by intro k l h;cases k<;>cases l<;>first|rfl|(exact absurd h iH)
theorem bytes_inj{s u:ByteArray}(h:s.data.toList.map UInt8.toNat=u.data.toList.map UInt8.toNat):s=u:=by
 have e:s.data.toList=u.data.toList:=by
  refine List.ext_getElem? fun i=>?_;have:=congrArg (fun l=>l[i]?) h;simp only[List.getElem?_map] at this;cases e1:s.data.toList[i]? with
  |none=>rw[e1] at this;cases e2:u.data.toList[i]? with
   |none=>rfl
   |some y=>rw[e2] at this;cases this
  |some x=>rw[e1] at this;cases e2:u.data.toList[i]? with
   |none=>rw[e2] at this;cases this
   |some y=>rw[e2] at this;simp only[Option.map_some,Option.some.injEq] at this;rw[UInt8.toNat_inj.1 this]
 obtain⟨⟨a⟩⟩:=s;obtain⟨⟨b⟩⟩:=u;have e:a=b:=e;rw[e]
theorem acA:∀{x y:AV},x.gi=true->y.gi=true->yr x=yr y->x=y:=by
 intro x y hx hy h;cases x<;>first|(cases hx;done)|skip
 case bool a=>
  cases y<;>first|(cases hy;done)|skip
  case bool b=>have:=(fM (show pr 0 a.toNat=pr 0 b.toNat from h)).2;cases a<;>cases b<;>first|rfl|(exact absurd this iH)
  case ptr b=>cases b<;>first|(cases hy;done)|(exact absurd (fM (show pr 0 a.toNat=pr 4 2 from h)).1 iH)
  case map b=>cases b<;>first|(cases hy;done)|(exact absurd (fM (show pr 0 a.toNat=pr 4 3 from h)).1 iH)
  all_goals exact absurd (fM (show pr 0 a.toNat=pr _ _ from h)).1 iH
 case int k n=>
  cases y<;>first|(cases hy;done)|skip
  case int k' n'=>obtain⟨h3,h4⟩:=fM (fM (show pr 1 (pr k.ctorIdx<|yq n)=pr 1 (pr k'.ctorIdx<|yq n') from h)).2;rw[adJ h3,acz h4]
  case ptr b=>cases b<;>first|(cases hy;done)|(exact absurd (fM (show pr 1 _=pr 4 2 from h)).1 iH)
  case map b=>cases b<;>first|(cases hy;done)|(exact absurd (fM (show pr 1 _=pr 4 3 from h)).1 iH)
  all_goals exact absurd (fM (show pr 1 _=pr _ _ from h)).1 iH
 case str u=>
  cases y<;>first|(cases hy;done)|skip
  case str u'=>rw[bytes_inj<|Od (fM (show pr 2 _=pr 2 _ from h)).2]
  case ptr b=>cases b<;>first|(cases hy;done)|(exact absurd (fM (show pr 2 _=pr 4 2 from h)).1 iH)
  case map b=>cases b<;>first|(cases hy;done)|(exact absurd (fM (show pr 2 _=pr 4 3 from h)).1 iH)
  all_goals exact absurd (fM (show pr 2 _=pr _ _ from h)).1 iH
 case ab n o l=>
  cases y<;>first|(cases hy;done)|skip
  case ab n' o' l'=>obtain⟨h3,h4⟩:=fM (fM (show pr 3 (pr n<|pr o l)=pr 3 (pr n'<|pr o' l') from h)).2;obtain⟨h5,h6⟩:=fM h4;rw[h3,h5,h6]
  case ptr b=>cases b<;>first|(cases hy;done)|(exact absurd (fM (show pr 3 _=pr 4 2 from h)).1 iH)
  case map b=>cases b<;>first|(cases hy;done)|(exact absurd (fM (show pr 3 _=pr 4 3 from h)).1 iH)
  all_goals exact absurd (fM (show pr 3 _=pr _ _ from h)).1 iH
 case nilFunc=>
  cases y<;>first|(cases hy;done)|rfl|skip
  case ptr b=>cases b<;>first|(cases hy;done)|(exact absurd (fM (show pr 4 0=pr 4 2 from h)).2 iH)
  case map b=>cases b<;>first|(cases hy;done)|(exact absurd (fM (show pr 4 0=pr 4 3 from h)).2 iH)
  case nilIface=>exact absurd (fM (show pr 4 0=pr 4 1 from h)).2 iH
  all_goals exact absurd (fM (show pr 4 0=pr _ _ from h)).1 iH
 case nilIface=>
  cases y<;>first|(cases hy;done)|rfl|skip
  case ptr b=>cases b<;>first|(cases hy;done)|(exact absurd (fM (show pr 4 1=pr 4 2 from h)).2 iH)
  case map b=>cases b<;>first|(cases hy;done)|(exact absurd (fM (show pr 4 1=pr 4 3 from h)).2 iH)
  case nilFunc=>exact absurd (fM (show pr 4 1=pr 4 0 from h)).2 iH
  all_goals exact absurd (fM (show pr 4 1=pr _ _ from h)).1 iH
 case ptr a=>
  cases a<;>first|(cases hx;done)|skip
  cases y<;>first|(cases hy;done)|skip
  case ptr b=>cases b<;>first|(cases hy;done)|rfl
  case map b=>cases b<;>first|(cases hy;done)|(exact absurd (fM (show pr 4 2=pr 4 3 from h)).2 iH)
  case nilIface=>exact absurd (fM (show pr 4 2=pr 4 1 from h)).2 iH
  case nilFunc=>exact absurd (fM (show pr 4 2=pr 4 0 from h)).2 iH
  all_goals exact absurd (fM (show pr 4 2=pr _ _ from h)).1 iH
 case map a=>
  cases a<;>first|(cases hx;done)|skip
  cases y<;>first|(cases hy;done)|skip
  case ptr b=>cases b<;>first|(cases hy;done)|(exact absurd (fM (show pr 4 3=pr 4 2 from h)).2 iH)
  case map b=>cases b<;>first|(cases hy;done)|rfl
  case nilIface=>exact absurd (fM (show pr 4 3=pr 4 1 from h)).2 iH
  case nilFunc=>exact absurd (fM (show pr 4 3=pr 4 0 from h)).2 iH
  all_goals exact absurd (fM (show pr 4 3=pr _ _ from h)).1 iH
theorem TF:∀{l m:List AV},l.all AV.gi=true->m.all AV.gi=true->l.map yr=m.map yr->l=m
 |[],[],_,_,_=>rfl
 |[],_::_,_,_,h=>by cases h
 |_::_,[],_,_,h=>by cases h
 |x::l,y::m,hx,hy,h=>by obtain⟨a1,a2⟩:=and_true.1 (show(x.gi&&l.all AV.gi)=true from hx);obtain⟨b1,b2⟩:=and_true.1 (show(y.gi&&m.all AV.gi)=true from hy);simp only[List.map_cons,List.cons.injEq] at h;rw[acA a1 b1 h.1,TF a2 b2 h.2]
noncomputable section
def nm(cs:List AV):Nat:=top+2+qN (cs.map yr)
open Classical in
def FU(n:Nat):Option<|List AV:=if h:∃cs:List AV,cs.all AV.gi=true/\nm cs=n then some h.choose else none
def aD(enc:α->List AV)(l:List α):AV:=.ab (nm (l.map enc).flatten) 0 l.length
end
theorem cU(cs:List AV):top<=nm cs:=Nat.le_trans (Nat.le_add_right top 2)<|Nat.le_add_right _ _
theorem Ae(cs:List AV):nm cs≠top/\nm cs≠top+1:=by unfold nm;omega
theorem Cl(h:cs.all AV.gi=true):FU (nm cs)=some cs:=by have hx:∃ds:List AV,ds.all AV.gi=true/\nm ds=nm cs:=⟨cs,h,rfl⟩;unfold FU;rw[dif_pos hx];obtain⟨h1,h2⟩:=hx.choose_spec;exact congrArg some<|TF h1 h<|Od (by have h3:top+2+qN (hx.choose.map yr)=top+2+qN (cs.map yr):=h2;omega)
theorem JD(h:x.gi=true):x.cj=true:=by cases x<;>first|rfl|(cases h;done)
theorem D2(h:x.gi=true):x.cq=true:=by
 cases x<;>first|rfl|(cases h;done)|skip
 ·rename_i a;cases a with
  |none=>rfl
  |some _=>cases h
 ·exact h
 ·rename_i a;cases a with
  |none=>rfl
  |some _=>cases h
theorem agQ(h:cs.all AV.gi=true){off:Nat}(hk:off+k<=cs.length):cx FU (nm cs) off k=some ((cs.drop off).take k):=by unfold cx;rw[Cl h];simp only[(aL.2 hk:Nat.ble (off+k) cs.length=true)]
structure me {α:Type} (K:Nat) (enc:α->List AV):Prop where
 len:∀a,(enc a).length=K
 gi:∀a,(enc a).all AV.gi=true
theorem me.all(h:me K enc):∀l:List α,(l.map enc).flatten.all AV.gi=true
 |[]=>rfl
 |a::l=>by rw[List.map_cons,List.flatten_cons,List.all_append,h.gi a,me.all h l];rfl
theorem me.length(h:me K enc)(l:List α):(l.map enc).flatten.length=l.length*K:=by
 have:=tD (K:=K) (l:=l.map enc) fun c hc=>by obtain⟨a,_,rfl⟩:=List.mem_map.1 hc;exact h.len a
 rw[this,List.length_map]
theorem ya(h:me K enc){l:List α}{i:Nat}{a:α}(ha:l[i]? =some a)(j k:Nat)(hk:j+k<=K):cx FU (nm (l.map enc).flatten) (i*K+j) k=some (((enc a).drop j).take k):=by
 have hi:=(List.getElem?_eq_some_iff.1 ha).1;have hle:i*K+K<=(l.map enc).flatten.length:=by rw[h.length];have:=Nat.mul_le_mul_right K (show i+1<=l.length from hi);rw[Nat.add_mul,Nat.one_mul] at this;exact this
 rw[agQ (h.all l) ak];have hf:=NG (l:=l.map enc) (K:=K) (i:=i) (c:=enc a) (fun c hc=>by obtain⟨a,_,rfl⟩:=List.mem_map.1 hc;exact h.len a) (by rw[List.getElem?_map,ha];rfl);have hd:((l.map enc).flatten.drop<|i*K+j).take k=((((l.map enc).flatten.drop<|i*K).take K).drop j).take k:=by rw[List.drop_take,List.take_take,List.drop_drop,Nat.min_eq_left ak]
 rw[hd,hf]
def gm(U:Nat)(ρ:aw):aw:=fun k=>if k<U then ρ k else gq ρ k
def rZ(B:aJ)(ρ:aw)(w:World):aJ:=⟨fun k=>w.heap.size<=k,B.F,fun k=>ρ k≠none,B.inv,B.dU,B.mono⟩
theorem tO(ht:U<=top)(hk:top<=k):gm U ρ k=ρ k:=by unfold gm gq;rw[if_neg ak,if_pos hk]
noncomputable section
def pV(U:Nat)(ns:List Nat)(h0:Tr ae)(val:List AV->Option AV):aO->List AV->M AV:=fun _ args=>aF (args.all AV.hi) <| (fe U h0 ns).bind fun _=>aC (val args) fun v=>aF v.hi <| M.pure v
end
theorem SH.pV(U:Nat)(ns:List Nat)(h0:Tr ae)(val:List AV->Option AV)(SI:aO)(args:List AV):SH<|pV U ns h0 val SI args:=SH.aF fun _=>SH.bind (SH.fe U h0 ns) fun _=>SH.aC fun _ _=>SH.aF fun _=>SH.pure _
theorem Jm{o p:ae}(h:oK U o p=true):o.mW=true:=by unfold oK at h;split at h<;>first|rfl|cases h
theorem ER(ht:U<=top)(r:Rel B ρ h w)(dE:∀n o,n<top->h0.get n=some o->n∈ns)(eh:∀n∈ns,n<U)(a3:∀n∈ns,∃o p,h.get n=some o/\h0.get n=some p/\oK U o p=true):Rel (rZ B ρ w) (gm U ρ) h0 w:=by
 have cH:∀n o,n<top->h0.get n=some o->o.mW=true/\∃b N o',gm U ρ n=some (b,N)/\w.heap[b]? =some o'/\OR (gm U ρ) N o o':=by
  intro n o hn ho;have iz:=dE n o hn ho;obtain⟨p1,p2,c2,c3,c4⟩:=a3 n iz;rw[ho] at c3;cases c3;obtain⟨b,N,o',i1,i2,i3,_⟩:=r.is n p1 hn c2;obtain⟨j1,j2⟩:=abB c4 i3;refine⟨j1,b,N,o',?_,i2,j2.mono fun k x e=>?_⟩
  ·unfold gm;rw[if_pos<|eh n iz];exact i1
  ·have e:(if k<U then ρ k else none)=some x:=e;unfold gm;split at e
   ·rename_i q;rw[if_pos q];exact e
   ·cases e
 refine⟨fun n o hn ho=>?_,fun n m o p b N M hn hm h1 h2 cZ _ _=>?_,fun n m es ex left cur hn ho=>?_,fun _ hk=>hk,fun i j m es ex left cur hJ iW iK iL hi _ h1 _=>?_,fun n b sh e=>?_,uO.no (fun n k v hn hg=>by have:=(cH n _ hn hg).1;cases this) ⟨r.tk.1.1,fun n o hn ho _=>by have iz:=dE n o hn ho;obtain⟨p1,p2,c2,c3,c4⟩:=a3 n iz;rw[ho] at c3;cases c3;obtain⟨b,N,e1,e2⟩:=r.tk.1.2 n p1 hn c2<|Jm c4;exact⟨b,N,by unfold gm;rw[if_pos<|eh n iz];exact e1,e2⟩⟩⟩
 ·obtain⟨h1,b,N,o',h2,h3,h4⟩:=cH n o hn ho;have h1:=ae.ke h1;exact⟨b,N,o',h2,h3,h4,fun q=>by rw[h1] at q;cases q⟩
 ·have e1:=ae.ke (cH n o hn h1).1;have e2:=ae.ke (cH m p hm h2).1;rw[e1,e2] at cZ;rcases cZ with q|q<;>cases q
 ·have:=(cH n _ hn ho).1;cases this
 ·have:=(cH i _ hi h1).1;cases this
 ·rw[tO ht<|gg _ _ _] at e;obtain⟨_,l,c,e',fr,g1,g2,g3,g4⟩:=r.fz n b sh e;refine⟨.inl e,l,c,e',fr,g1,g2,fun m o N hm ho hr _=>?_,fun i x hx=>?_⟩
  ·rw[ae.ke (cH m o hm ho).1] at hr;cases hr
  ·obtain⟨v,k1,k2,k3⟩:=g4 i x hx;refine⟨v,k1,VR.mono (fun k y q=>?_) _ _ k2,k3⟩;unfold gq at q ⊢;split at q
   ·rename_i hk;rw[if_pos hk,tO ht hk];exact q
   ·cases q
def cL(ρ σ:aw):aw:=fun k=>if top<=k then σ k else ρ k
theorem Ky{σ:aw}{h4:Tr ae}{w':World}{a:Nat}(ht:U<=top)(r:Rel B ρ h w)(q3:Rel (rZ B ρ w) σ h4 w')(q4:cP (rZ B ρ w) w w')(hle:(gm U ρ).le σ):
 Ext a a ρ (cL ρ σ)/\iM σ (cL ρ σ)/\Rel B (cL ρ σ) h w'/\cP B w w':=by
 have hold:∀k x,top<=k->ρ k=some x->σ k=some x:=fun k x hk e=>hle k x (by rw[tO ht hk];exact e);have hl:ρ.le<|cL ρ σ:=by
  intro k x e;unfold cL;by_cases hk:top<=k
  ·rw[if_pos hk];exact hold k x hk e
  ·rw[if_neg hk];exact e
 have cY:∀k,k<top->cL ρ σ k=ρ k:=fun k hk=>by unfold cL;rw[if_neg ak]
 have CA:cP B w w':=⟨q4.os,q4.tape,q4.output,q4.size,fun k hk _=>q4.block k hk (by show ¬(w.heap.size<=k);omega)⟩;have Lt:∀b,b<w.heap.size->w'.heap[b]? =w.heap[b]? :=fun b hb=>q4.block b hb (by show ¬(w.heap.size<=b);omega);refine⟨⟨hl,fun k hk _=>cY k hk⟩,fun k x hk e=>by unfold cL;rw[if_pos hk];exact e,⟨?_,?_,?_,fun k hk=>r.size k<|Nat.le_trans q4.size hk,r.lone,?_,r.tk.of hl (fun _ _ _ e _=>e) q4.size (fun b hb _=>Lt b hb) (fun b1 _ hn m o N hm ho hr hb=>hn m o N hm ho hr (by rw[cY m hm] at hb;exact hb)) (fun j x sh hx _ e=>by
  unfold cL;rw[if_pos<|gg _ _ _];refine Classical.byContradiction fun q=>?_;rcases(q3.fz j x sh q).1 with z|z
  ·exact z e
  ·exact absurd hx (by have z:w.heap.size<=x:=z;omega))⟩,CA⟩
 ·intro n o hn ho;obtain⟨b,N,o',h1,h2,h3,h5⟩:=r.is n o hn ho;exact⟨b,N,o',(cY n hn).trans h1,(Lt b<|gV h2).trans h2,h3.mono hl,h5⟩
 ·intro n m o p b N M hn hm h1 h2 cZ e1 e2;rw[cY n hn] at e1;rw[cY m hm] at e2;exact r.one n m o p b N M hn hm h1 h2 cZ e1 e2
 ·intro n m es ex left cur hn ho;obtain⟨hm,fx,b,N,bm,M,l,bj,seen,h1,h2,h3,h5,h6⟩:=r.iter n m es ex left cur hn ho;have u:np ρ w' n m es ex left cur:=⟨b,N,bm,M,l,bj,seen,h1,h2,(Lt b<|gV h3).trans h3,(Lt bm<|gV h5).trans h5,h6⟩;exact⟨hm,fx,u.mono hl⟩
 ·intro n b sh e;have e:σ (hn n b sh)≠none:=by unfold cL at e;rw[if_pos<|gg _ _ _] at e;exact e
  obtain⟨g0,l,c,e',fr,g1,g2,_,g4⟩:=q3.fz n b sh e;have ga:(gq σ).le<|gq<|cL ρ σ:=by
   intro k x q;unfold gq at q ⊢;split at q
   ·rename_i hk;rw[if_pos hk];unfold cL;rw[if_pos hk];exact q
   ·cases q
  have mV:∀i x,l[i]? =some x->∃v,c[sh+i]? =some v/\VR (gq<|cL ρ σ) x v/\x.cj=true:=fun i x hx=>by obtain⟨v,k1,k2,k3⟩:=g4 i x hx;exact⟨v,k1,VR.mono ga _ _ k2,k3⟩
  by_cases q:ρ (hn n b sh)≠none
  ·obtain⟨z0,l',c',e2,kl,z1,z2,z3,_⟩:=r.fz n b sh q;refine⟨z0,l,c,e',fr,g1,g2,fun m o N hm ho hr hb=>?_,mV⟩;rw[cY m hm] at hb;exact z3 m o N hm ho hr hb
  ·have hb:w.heap.size<=b:=g0.resolve_left q;refine⟨.inr<|r.size b hb,l,c,e',fr,g1,g2,fun m o N hm ho hr iO=>?_,mV⟩;rw[cY m hm] at iO;obtain⟨b1,N1,o1,h1,h2,_⟩:=r.is m o hm ho;rw[iO] at h1;cases h1;have:=gV h2;omega
noncomputable section
def bp(val:List AV->Option AV)(args:List AV):Option AV:=match args.all AV.hi with
 |true=>(val args).bind fun v=>match v.hi with
  |true=>some v
  |false=>none
 |false=>none
end
theorem fu{val:List AV->Option AV}(h:val args=some v)(ha:args.all AV.hi=true)(hv:v.hi=true):bp val args=some v:=by unfold bp;rw[ha,h];simp only[Option.bind_some,hv]
theorem adK{val:List AV->Option AV}(h:bp val args=some v):val args=some v/\args.all AV.hi=true/\v.hi=true:=by
 unfold bp at h;split at h
 ·rename_i ha;cases e:val args with
  |none=>rw[e] at h;cases h
  |some u=>
   rw[e] at h;simp only[Option.bind_some] at h;split at h
   ·rename_i hu;injection h with h;subst h;exact⟨rfl,ha,hu⟩
   ·cases h
 ·cases h
theorem acB{val:List AV->Option AV}{SI:aO}{s:AS}(h:bp val args=some v)(hc:qg U h0 ns s=true):pV U ns h0 val SI args s= .ok v (dK U h0 ns s):=by obtain⟨h1,h2,h3⟩:=adK h;unfold pV;rw[h2,dz,M.bN<|vI hc,h1,bW,h3,dz];rfl
end Go.Rn
namespace Go.Rn
open Go.RowKit
variable {n:Nat} {o:Option ae}
noncomputable def lz(n:Nat)(o:Option ae):M Unit:=fun s=>
 @AS.rec (fun _=>R Unit) (fun h nx mark rd wr=>
  @Bool.rec (fun _=>R Unit) .bad
   (@Option.rec ae (fun _=>R Unit) .bad
    (fun p=> @Bool.rec (fun _=>R Unit)
     (@Bool.rec (fun _=>R Unit) (.ok () ⟨h.put n o,nx,mark,rd,wr⟩) (.ok () ⟨h.put n o,nx,mark,n::rd,n::wr⟩)<|Nat.blt n mark)
     .bad (!p.lh))
    (h.get n))
   (and (Nat.blt n nx)<|Nat.blt n top)) s
theorem VT{u:Unit}{s s1:AS}(h:lz n o s= .ok u s1):
 n<s.nx/\n<top/\(∃p,s.h.get n=some p/\(!p.lh)=false)/\s1=if n<s.mark then{s with h:=s.h.put n o,rd:=n::s.rd,wr:=n::s.wr} else{s with h:=s.h.put n o}:=by
 obtain⟨hh,nx,mark,rd,wr⟩:=s;have e:lz n o ⟨hh,nx,mark,rd,wr⟩= @Bool.rec (fun _=>R Unit) .bad
  (@Option.rec ae (fun _=>R Unit) .bad
   (fun p=> @Bool.rec (fun _=>R Unit)
    (@Bool.rec (fun _=>R Unit) (.ok () ⟨hh.put n o,nx,mark,rd,wr⟩) (.ok () ⟨hh.put n o,nx,mark,n::rd,n::wr⟩)<|Nat.blt n mark)
    .bad (!p.lh))
   (hh.get n))
  (and (Nat.blt n nx)<|Nat.blt n top):=rfl
 rw[e] at h;cases hb:and (Nat.blt n nx) (Nat.blt n top) with
 |false=>rw[hb] at h;cases h
 |true=>
  rw[hb] at h;have iO:=Bool.and_eq_true_iff.1 hb;rw[blt_eq,blt_eq] at iO;cases hg:hh.get n with
  |none=>rw[hg] at h;cases h
  |some p=>
   rw[hg] at h;cases hr:(!p.lh) with
   |true=>
    have h': @Bool.rec (fun _=>R Unit)
     (@Bool.rec (fun _=>R Unit) (.ok () ⟨hh.put n o,nx,mark,rd,wr⟩) (.ok () ⟨hh.put n o,nx,mark,n::rd,n::wr⟩)<|Nat.blt n mark)
     .bad (!p.lh)= .ok u s1:=h
    rw[hr] at h';cases h'
   |false=>
    have h': @Bool.rec (fun _=>R Unit)
     (@Bool.rec (fun _=>R Unit) (.ok () ⟨hh.put n o,nx,mark,rd,wr⟩) (.ok () ⟨hh.put n o,nx,mark,n::rd,n::wr⟩)<|Nat.blt n mark)
     .bad (!p.lh)= .ok u s1:=h
    rw[hr] at h';refine⟨iO.1,iO.2,⟨p,by first|exact hg|rfl,hr⟩,?_⟩;have uR: @Bool.rec (fun _=>R Unit) (.ok () ⟨hh.put n o,nx,mark,rd,wr⟩) (.ok () ⟨hh.put n o,nx,mark,n::rd,n::wr⟩) (Nat.blt n mark)= .ok u s1:=h';rw[zM] at uR;by_cases e:n<mark
    ·rw[if_pos e] at uR;injection uR with _ h3;simp[e, ←h3]
    ·rw[if_neg e] at uR;injection uR with _ h3;simp[e, ←h3]
theorem WX{s:AS}{p:ae}(h1:n<s.nx)(h2:n<top)(h3:s.h.get n=some p)(h4:(!p.lh)=false):
 lz n o s= .ok () (if n<s.mark then{s with h:=s.h.put n o,rd:=n::s.rd,wr:=n::s.wr} else{s with h:=s.h.put n o}):=by
 obtain⟨hh,nx,mark,rd,wr⟩:=s;have e:lz n o ⟨hh,nx,mark,rd,wr⟩= @Bool.rec (fun _=>R Unit) .bad
  (@Option.rec ae (fun _=>R Unit) .bad
   (fun p=> @Bool.rec (fun _=>R Unit)
    (@Bool.rec (fun _=>R Unit) (.ok () ⟨hh.put n o,nx,mark,rd,wr⟩) (.ok () ⟨hh.put n o,nx,mark,n::rd,n::wr⟩)<|Nat.blt n mark)
    .bad (!p.lh))
   (hh.get n))
  (and (Nat.blt n nx)<|Nat.blt n top):=rfl
 have hb:and (Nat.blt n nx) (Nat.blt n top)=true:=Bool.and_eq_true_iff.2 ⟨by rw[blt_eq];exact h1,by rw[blt_eq];exact h2⟩;have hg:hh.get n=some p:=h3;rw[e,hb,hg];show @Bool.rec (fun _=>R Unit) (@Bool.rec (fun _=>R Unit) (.ok () ⟨hh.put n o,nx,mark,rd,wr⟩) (.ok () ⟨hh.put n o,nx,mark,n::rd,n::wr⟩)<|Nat.blt n mark) .bad (!p.lh)=_;rw[h4];show @Bool.rec (fun _=>R Unit) (.ok () ⟨hh.put n o,nx,mark,rd,wr⟩) (.ok () ⟨hh.put n o,nx,mark,n::rd,n::wr⟩) (Nat.blt n mark)=_;rw[zM];by_cases e:n<mark<;>simp[e]
theorem SH.lz(n:Nat)(o:Option ae):SH<|lz n o:=by
 intro s v s1 fi h;obtain⟨h1,ht,⟨p,h2,h3⟩,rfl⟩:=VT h;by_cases e:n<s.mark
 ·rw[if_pos e];refine⟨[n],[n],⟨rfl,rfl,Nat.le_refl _,fi.nx,rfl,fun k hk hn=>?_,fun _ h=>h,fun k hk gw=>?_⟩,fun A m0 t ag hA=>?_⟩
  ·show(s.h.put n o).get k=_;rw[Tr.dt _ _ _ _ ht (by have:=fi.mark;have:=fi.nx;omega),if_neg<|by simpa using hn]
  ·show(s.h.put n o).get k=_;have:s.nx<=k:=hk;rw[Tr.dt _ _ _ _ ht gw,if_neg ak]
  ·have hq:A n\/m0<=n:=by
    by_cases q:n<m0
    ·exact .inl<|hA n jI q
    ·exact .inr ak
   have hg:=ag.is n h1 hq;have hr:=WX (o:=o) (s:=t) (n:=n) (p:=p) FJ ht FK h3;rw[←ag.mark,if_pos e] at hr;refine⟨_,hr,⟨ag.nx,by first|exact ag.mark|rfl,ag.low,fun k hk hq=>?_⟩,rfl,rfl,fun k hk hn=>?_,fun k hk gw=>?_⟩
   ·show(s.h.put n o).get k=(t.h.put n o).get k;have rp:k<s.nx:=hk;have:=fi.nx;rw[Tr.dt _ _ _ _ ht ak,Tr.dt _ _ _ _ ht ak];by_cases q:k=n
    ·simp[q]
    ·rw[if_neg q,if_neg q];exact ag.is k hk hq
   ·show(t.h.put n o).get k=_;have:=fi.mark;have:=fi.nx;have:=ag.low;rw[Tr.dt _ _ _ _ ht ak,if_neg<|by simpa using hn]
   ·show(t.h.put n o).get k=_;have:s.nx<=k:=hk;rw[Tr.dt _ _ _ _ ht gw,if_neg ak]
 ·rw[if_neg e];refine⟨[],[],⟨rfl,rfl,Nat.le_refl _,fi.nx,rfl,fun k hk hn=>?_,fun _ h=>h,fun k hk gw=>?_⟩,fun A m0 t ag hA=>?_⟩
  ·show(s.h.put n o).get k=_;have:=fi.mark;have:=fi.nx;rw[Tr.dt _ _ _ _ ht ak,if_neg ak]
  ·show(s.h.put n o).get k=_;have:s.nx<=k:=hk;rw[Tr.dt _ _ _ _ ht gw,if_neg ak]
  ·have hg:=ag.is n h1<|.inr<|Nat.le_trans ag.low ak;have hr:=WX (o:=o) (s:=t) (n:=n) (p:=p) FJ ht FK h3;rw[←ag.mark,if_neg e] at hr;refine⟨_,hr,⟨ag.nx,by first|exact ag.mark|rfl,ag.low,fun k hk hq=>?_⟩,rfl,rfl,fun k hk hn=>?_,fun k hk gw=>?_⟩
   ·show(s.h.put n o).get k=(t.h.put n o).get k;have rp:k<s.nx:=hk;have:=fi.nx;rw[Tr.dt _ _ _ _ ht ak,Tr.dt _ _ _ _ ht ak];by_cases q:k=n
    ·simp[q]
    ·rw[if_neg q,if_neg q];exact ag.is k hk hq
   ·show(t.h.put n o).get k=_;have:=fi.mark;have:=fi.nx;have:=ag.low;rw[Tr.dt _ _ _ _ ht ak,if_neg ak]
   ·show(t.h.put n o).get k=_;have:s.nx<=k:=hk;rw[Tr.dt _ _ _ _ ht gw,if_neg ak]
section
variable {P:Program} {B:aJ} {ρ:aw} {w:World} {s s1 s2:AS} {SI:aO}
theorem av.Em{qp:Nat}(hP:bB P){g:FuncId}{fn:Func}{body:Code}{args:List AV}{vs:Array Value}{R:AV->AS->Prop}(ch:P.funcs[g]? =some fn)(cw:fn.body=some body)(pd:max fn.ntmps args.length<=top)(H:av P B qp (Fin P fn.results.toList R) ⟨g,dZ args,max fn.ntmps args.length,[.code body],[],none⟩ s)(fi:bE s)(r:Rel B ρ s.h w)(hg:gk ρ)(hf:∀k,s.nx<=k->k<top->ρ k=none)(hv:az ρ args vs.toList):
 Calls P g vs w fun e w'=>∃v x s3,e= .returned v/\R x s3/\bE s3/\∃σ,(∀k,k<qp->k<top->σ k=ρ k)/\(∀k x,top<=k->ρ k=some x->σ k=some x)/\VR σ x v/\Rel B σ s3.h w'/\cP B w w':=by
 intro cs;let b:Frame:={(default:Frame) with fn:=g,kind:=.normal,roundOf:=none};let a:Act:={tmps:=vs++Array.replicate (fn.ntmps - vs.size) undef,defers:=[]};have xZ:Frame.enter P g vs .normal=b.atR a [.code body]:=by simp[Frame.enter,Frame.atR,ch,cw,b,a]
 have bG:Fr ρ ⟨g,dZ args,max fn.ntmps args.length,[.code body],[],none⟩ b a:=⟨rfl,rfl,trivial,rfl,.cons (hP.code g fn body ch cw) .nil⟩;have ay:At B ρ s (max fn.ntmps args.length) (dZ args) w a:=⟨Je hv _ pd,r,hg,pd,fi⟩;obtain⟨fr,j,s2,σ,a',w',⟨x,s3,qe,hR⟩,en,e0,IG,e1,e2,e3,e4,e5,e6,e7,e8⟩:=H ρ w b a cs bG ay hf;have Qn:finish P fn.results.toList fr j s2= .ok x s3:=by rw[Gu];exact qe
 have AZ:bE s2:=e2.cG;obtain⟨hj,u2,s4,rs,h7,h9,hx⟩:=ND Qn;have pw:bE s4:=(SH.rP _).cG AZ h7;have qv:Leaves j fr.todo:=e7;obtain⟨d1,d2,w2,d3,d4,d5⟩:=Jd (P:=P) (fr:=b) (cs:=cs) AZ e2.rel e3 h7;obtain⟨f1,f2,us,f3,f4⟩:=Ja (P:=P) (w:=w2) e2.tr pw d3 h9;have ju:bE s3:=(SH.tI P fr.tmps _).cG pw h9;have HU:Steps P (lone (b.atR a' fr.todo) cs w')<|lone {b.atR a' fr.todo with mode:=.returning} cs w':=by
  rcases hj with rfl|rfl
  ·have e:fr.todo=[]:=qv;rw[e];exact .one<|stepR_end rfl
  ·obtain⟨k,e⟩:=qv;rw[e];exact .one<|stepR_ret rfl
 have yn:=d5 {b.atR a' fr.todo with mode:=.returning} cs jI rfl;have kz:(results fn a'.tmps).run P w2= .ok (oJ us) w2:=by
  unfold results;rw[Array.mapM_eq_mapM_toList];simp only[Sem.run_bind,map_eq_pure_bind,Sem.run_pure];refine Eq.trans (congrArg (fun r:Result (List Value)=>(r.andThen fun a w'=>Result.ok a.toArray w').andThen fun a w'=>Result.ok (if h:a.size=1 then a[0] else Value.tuple a) w') f3) ?_;have:∀l:List Value,(Result.ok (if h:l.toArray.size=1 then l.toArray[0] else Value.tuple l.toArray) w2:Result Value)= .ok (oJ l) w2:=by
   intro l
   match l with
   |[]=>rfl
   |[v]=>rfl
   |v::v2::l=>simp[oJ]
  exact this us
 refine⟨.returned<|oJ us,w2,{b.atR a' fr.todo with mode:=.returning,defers:=[]},⟨_,x,s3,rfl,hR,ju,σ,e0,IG,?_⟩,?_,rfl,?_⟩
 ·exact⟨by rw[hx];exact NX f4,by rw[f1];exact d3,e4.trans d4⟩
 ·rw[xZ];exact Steps.trans e8<|Steps.trans HU yn
 ·exact⟨rfl,rfl,rfl,fn,ch,kz⟩
end
abbrev TX:=Nat->AV->List (Nat×ae)->Prop
def yJ(loc ρ:aw):aw:=fun m=>if top<=m then ρ m else loc m
theorem acC{loc ρ σ:aw}(h:∀m x,top<=m->ρ m=some x->σ m=some x):(yJ loc ρ).le<|yJ loc σ:=by
 intro k x e;unfold yJ at e ⊢;split at e
 ·rename_i q;rw[if_pos q];exact h k x q e
 ·rename_i q;rw[if_neg q];exact e
inductive nW (X:TX) (U:Nat):Nat->AV->aw->World->Nat->(Nat->Prop)->Prop where
 | mk {k:Nat} {v:AV} {ρ:aw} {w:World} {b:Nat} {H:Nat->Prop} (L:List<|Nat×ae) (loc:aw) (bl:Nat->Nat) (H1:Nat->Nat->Prop) (N0:Nat)
   (hx:X k v L) (root:loc U=some (b,N0)) (low:∀m,m<U->loc m=none)
   (is:∀m o,(m,o)∈L->∃N o',loc m=some (bl m,N)/\w.heap[bl m]? =some o'/\OR (yJ loc ρ) N o o'/\H (bl m))
   (one:∀m n o p,(m,o)∈L->(n,p)∈L->bl m=bl n->m=n)
   (tok:∀m k' v',(m,ae.tok k' v')∈L->nW X U k' v' ρ w (bl m) (H1 m))
   (Lu:∀m k' v',(m,ae.tok k' v')∈L->H1 m (bl m))
   (sub:∀m k' v',(m,ae.tok k' v')∈L->∀x,H1 m x->H x)
   (own:∀m k' v' n o,(m,ae.tok k' v')∈L->(n,o)∈L->o.lh=false->¬H1 m (bl n))
   (apart:∀m k' v' n MA wV x,(m,ae.tok k' v')∈L->(n,ae.tok MA wV)∈L->m≠n->H1 m x->¬H1 n x):nW X U k v ρ w b H
theorem nW.mono{X:TX}{U k:Nat}{v:AV}{ρ:aw}{w:World}{b:Nat}{H:Nat->Prop}(h:nW X U k v ρ w b H):∀{σ:aw} {w':World},(∀m x,top<=m->ρ m=some x->σ m=some x)->(∀x,H x->w'.heap[x]? =w.heap[x]?)->nW X U k v σ w' b H:=by
 induction h with
 |mk L loc bl H1 N0 hx root low is one tok Lu sub own apart ih=>intro σ w' hm hw;refine .mk L loc bl H1 N0 hx root low (fun m o za=>?_) one (fun m k' v' za=>ih m k' v' za hm fun x q=>hw x<|sub m k' v' za x q) Lu sub own apart;obtain⟨N,o',a1,a2,a3,a4⟩:=is m o za;exact⟨N,o',a1,(hw _ a4).trans a2,a3.mono<|acC hm,a4⟩
def lI(ns:List Nat)(o:ae):Prop:=∀(σ:aw) (N:Nat) (o':Obj),OR σ N o o'->OR (fun m=>if top<=m\/m∈ns then σ m else none) N o o'
structure zb (X:TX) (U:Nat):Prop where
 nm:∀k v L,X k v L->∀p∈L,U<=p.1/\p.1<top/\(p.2.own=true\/p.2.lh=true)/\lI (L.map (·.1)) p.2
 root:∀k v L,X k v L->∃o,(U,o)∈L
theorem Oe:∀{L:List<|Nat×ae},(∀p∈L,p.1<n)->∀p∈bO L,p.1<n
 |[],_,p,hp=>by cases hp
 |a::l,h,p,hp=>by
  rcases List.mem_cons.1 hp with rfl|hp
  ·exact h a List.mem_cons_self
  ·exact Oe (fun q hq=>h q<|List.mem_cons_of_mem _ hq) p hp
end Go.Rn
namespace Go.Rn
open Go.RowKit
noncomputable section
def yK(U:Nat)(ns:List Nat)(h0:Tr ae)(k:Nat)(val:AV->List AV->Option (AV×AV)):aO->List AV->M AV:=fun _ args=>
 match args with
 | .ptr (some (n,0))::rest=>aF (rest.all AV.hi&&Nat.ble U n) <| (fe U h0 ns).bind fun _=>(bw n).bind fun o=>match o with
  | .tok k' v=>aF (Nat.beq k k') <| aC (val v rest) fun p=>aF p.1.hi <| (lz n<|some<|.tok k p.2).bind fun _=>M.pure p.1
  |_=>fail
 |_=>fail
end
theorem SH.yK(U:Nat)(ns:List Nat)(h0:Tr ae)(k:Nat)(val:AV->List AV->Option (AV×AV))(SI:aO)(args:List AV):SH<|yK U ns h0 k val SI args:=by
 unfold Rn.yK;split
 ·refine SH.aF fun _=>SH.bind (SH.fe U h0 ns) fun _=>SH.bind (SH.bw _) fun o=>?_;split
  ·exact SH.aF fun _=>SH.aC fun p _=>SH.aF fun _=>SH.bind (SH.lz _ _) fun _=>SH.pure _
  ·exact SH.fail
 ·exact SH.fail
def mJ(U:Nat)(ρ loc:aw):aw:=fun m=>if m<U then ρ m else if top<=m then ρ m else loc m
def sa(B:aJ)(ρ:aw)(w:World)(H:Nat->Prop):aJ:=⟨fun x=>w.heap.size<=x\/H x,B.F,fun m=>ρ m≠none,B.inv,B.dU,B.mono⟩
theorem ah9{X:TX}{U k:Nat}{v:AV}{B:aJ}{ρ:aw}{w:World}{h h0:Tr ae}{ns:List Nat}{kn:List<|Nat×Option ae}{b:Nat}{H:Nat->Prop}(hX:zb X U)(hT:B.inv=nW X U)(ht:U<=top)(r:Rel B ρ h w)(dE:∀n o,n<top->h0.get n=some o->n∈ns)(eh:∀n∈ns,n<U)(iA:∀n o,(n,some o)∈kn->h0.get n=some o)(iB:∀p∈kn,p.1<top)(a3:∀n∈ns,∃o p,h.get n=some o/\h0.get n=some p/\oK U o p=true)(hH:∀x,H x->(x<w.heap.size/\B.dU<=x)/\B.may x/\jY ρ h x/\∀j sh,ρ (hn j x sh)=none)(I:nW X U k v ρ w b H):
 ∃L loc N0,X k v L/\loc U=some (b,N0)/\(∀m y,loc m=some y->∃o,(m,o)∈L)/\Rel (sa B ρ w H) (mJ U ρ loc) (fL<|kn++bO L) w:=by
 obtain⟨L,H6,bl,H1,N0,hx,root,low,is,one,tok,Lu,sub,own,apart⟩:=I;have r0:=ER ht r dE eh a3;have nm:=hX.nm k v L hx;let loc:aw:=fun m=>if m∈L.map (·.1) then H6 m else none
 have De:∀m o,(m,o)∈L->m∈L.map (·.1):=fun m o hm=>List.mem_map.2 ⟨_,hm,rfl⟩;have Yh:∀m,m∈L.map (·.1)->loc m=H6 m:=fun m hm=>if_pos hm;have aia:∀m,m ∉ L.map (·.1)->loc m=none:=fun m hm=>if_neg hm;have ge:∀m,m∈L.map (·.1)->U<=m/\m<top:=fun m hm=>by obtain⟨p,hp,rfl⟩:=List.mem_map.1 hm;exact⟨(nm p hp).1,(nm p hp).2.1⟩
 obtain⟨oR,hR⟩:=hX.root k v L hx;have tm:∀m,m∈L.map (·.1)->mJ U ρ loc m=H6 m:=fun m hm=>by obtain⟨q1,q2⟩:=ge m hm;unfold mJ;rw[if_neg ak,if_neg ak];exact Yh m hm
 have tk:∀m,top<=m->mJ U ρ loc m=ρ m:=fun m hm=>by unfold mJ;rw[if_neg ak,if_pos hm]
 have tl:∀m,m<U->mJ U ρ loc m=ρ m:=fun m hm=>by unfold mJ;rw[if_pos hm]
 have u0:(gm U ρ).le<|mJ U ρ loc:=by
  intro m x e;unfold gm at e;split at e
  ·rename_i q;rw[tl m q];exact e
  ·unfold gq at e;split at e
   ·rename_i q;rw[tk m q];exact e
   ·cases e
 have cY:∀p∈kn++bO L,p.1<top:=fun p hp=>by
  rcases List.mem_append.1 hp with hp|hp
  ·exact iB p hp
  ·exact Oe (fun q hq=>(nm q hq).2.1) p hp
 have mle:∀{N:Nat} {o:ae} {o':Obj},lI (L.map (·.1)) o->OR (yJ H6 ρ) N o o'->OR (mJ U ρ loc) N o o':=fun hf hO=>(hf _ _ _ hO).mono fun i y hi=>by
  have hi:(if top<=i\/i∈L.map (·.1) then yJ H6 ρ i else none)=some y:=hi;split at hi
  ·rename_i q;unfold yJ at hi;rcases q with q|q
   ·rw[if_pos q] at hi;rw[tk i q];exact hi
   ·rw[if_neg (by have:=(ge i q).2;omega)] at hi;rw[tm i q];exact hi
  ·cases hi
 have au:∀m o,(fL<|kn++bO L).get m=some o->(m∈ns/\h0.get m=some o/\o.mW=true)\/(m,o)∈L:=fun m o hg=>by
  rcases List.mem_append.1 (xD cY hg) with q|q
  ·have q2:=iA m o q;have iz:=dE m o (iB _ q) q2;obtain⟨p1,p2,_,c3,c4⟩:=a3 m iz;rw[q2] at c3;cases c3;refine .inl ⟨iz,q2,?_⟩;unfold oK at c4;split at c4<;>first|rfl|cases c4
  ·exact .inr<|N5 q
 have Df:∀m N x,m∈ns->mJ U ρ loc m=some (x,N)->x<B.dU:=fun m N x q1 e=>by rw[tl m<|eh m q1] at e;obtain⟨p1,p2,c2,c3,c4⟩:=a3 m q1;obtain⟨b',N',e1,e2⟩:=r.tk.1.2 m p1 (Nat.lt_of_lt_of_le (eh m q1) ht) c2<|Jm c4;rw[e] at e1;cases e1;exact e2
 have F1:∀m o N x,(m,o)∈L->mJ U ρ loc m=some (x,N)->x=bl m/\H x:=fun m o N x hm e=>by rw[tm m<|De m o hm] at e;obtain⟨N',o',e1,_,_,e4⟩:=is m o hm;rw[e] at e1;cases e1;exact⟨rfl,e4⟩
 refine⟨L,loc,N0,hx,(Yh _<|De _ _ hR).trans root,fun m y e=>?_,fun m o hm hg=>?_,fun m n o p x N M hm fC hg ly cZ e1 e2=>?_,fun m i es ex left cur hm hg=>?_,fun x hx=>.inl hx,fun i j m es ex left cur hJ iW iK iL hi _ hg _=>?_,fun j x sh e=>?_,?_⟩
 ·by_cases q:m∈L.map (·.1)
  ·obtain⟨p,hp,rfl⟩:=List.mem_map.1 q;exact⟨p.2,hp⟩
  ·rw[aia m q] at e;cases e
 ·rcases au m o hg with⟨q1,q3,q4⟩|q
  ·obtain⟨b',N',o',e1,e2,e3,_⟩:=r0.is m o hm q3;exact⟨b',N',o',u0 _ _ e1,e2,e3.mono u0,fun z=>by rw[ae.ke q4] at z;cases z⟩
  ·obtain⟨N',o',e1,e2,e3,e4⟩:=is m o q;exact⟨bl m,N',o',(tm m<|De m o q).trans e1,e2,mle (nm _ q).2.2.2 e3,fun _=>.inr e4⟩
 ·rcases au m o hg with⟨q1,q3,q4⟩|q
  ·rcases au n p ly with⟨z1,z3,z4⟩|z
   ·rcases cZ with y|y
    ·rw[ae.ke q4] at y;cases y
    ·rw[ae.ke z4] at y;cases y
   ·have y1:=Df m N x q1 e1;have y2:=(hH x (F1 n p M x z e2).2).1.2;omega
  ·rcases au n p ly with⟨z1,z3,z4⟩|z
   ·have y1:=Df n M x z1 e2;have y2:=(hH x (F1 m o N x q e1).2).1.2;omega
   ·exact one m n o p q z<|(F1 m o N x q e1).1.symm.trans (F1 n p M x z e2).1
 ·rcases au m _ hg with⟨_,_,q4⟩|q
  ·cases q4
  ·rcases(nm _ q).2.2.1 with y|y<;>cases y
 ·rcases au i _ hg with⟨_,_,q4⟩|q
  ·cases q4
  ·rcases(nm _ q).2.2.1 with y|y<;>cases y
 ·rw[tk _<|gg _ _ _] at e;obtain⟨g0,l,c,e',fr,g1,g2,g3,g4⟩:=r0.fz j x sh (by rw[tO ht<|gg _ _ _];exact e);refine⟨.inl e,l,c,e',fr,g1,g2,fun m o N hm hg cH hr=>?_,fun i y hy=>?_⟩
  ·rcases au m o hg with⟨_,_,q4⟩|q
   ·rw[ae.ke q4] at cH;cases cH
   ·exact e<|(hH x (F1 m o N x q hr).2).2.2.2 j sh
  ·obtain⟨v',k1,k2,k3⟩:=g4 i y hy;refine⟨v',k1,VR.mono (fun i z q=>?_) _ _ k2,k3⟩;unfold gq at q ⊢;split at q
   ·rename_i hk;rw[if_pos hk];exact u0 _ _ q
   ·cases q
 ·refine⟨⟨r.tk.1.1,fun m o hm hg hf=>?_⟩,H1,fun m k' v' hm hg=>?_,fun m n x k' v' MA wV hm fC hg ly cz ja qx=>?_⟩
  ·rcases au m o hg with⟨q1,q3,q4⟩|q
   ·obtain⟨b',N',o',e1,e2,e3,_⟩:=r0.is m o hm q3;exact⟨b',N',u0 _ _ e1,Df m N' b' q1<|u0 _ _ e1⟩
   ·rcases(nm _ q).2.2.1 with y|y
    ·have:=(ae.vt y).2;rw[ae.ke hf] at this;cases this
    ·cases o<;>first|(cases y;done)|cases hf
  ·rcases au m _ hg with⟨_,_,q4⟩|q
   ·cases q4
   ·obtain⟨N',o',e1,e2,e3,e4⟩:=is m _ q;refine⟨bl m,N',(tm m<|De m _ q).trans e1,?_,Lu m k' v' q,fun x ja=>?_⟩
    ·show B.inv k' v' (mJ U ρ loc) w (bl m)<|H1 m;rw[hT];exact(tok m k' v' q).mono (fun i y hi e=>by rw[tk i hi];exact e) fun _ _=>rfl
    ·have qx:=sub m k' v' q x ja;obtain⟨c1,c2,c3,c4⟩:=hH x qx;refine⟨c1,.inr qx,fun n o N fC ly cH hr=>?_,fun j sh=>by rw[tk _<|gg _ _ _];exact c4 j sh⟩;rcases au n o ly with⟨_,_,q4⟩|z
     ·rw[ae.ke q4] at cH;cases cH
     ·refine own m k' v' n o q z ?_ (by rw[←(F1 n o N x z hr).1];exact ja);cases o<;>first|rfl|cases cH
  ·rcases au m _ hg with⟨_,_,q4⟩|q
   ·cases q4
   ·rcases au n _ ly with⟨_,_,q4⟩|z
    ·cases q4
    ·exact apart m k' v' n MA wV x q z cz ja qx
end Go.Rn
namespace Go.Rn
open Go.RowKit
theorem agR{X:TX}{U k n a:Nat}{v v':AV}{B:aJ}{ρ σ:aw}{w w':World}{h h4:Tr ae}{b N N0:Nat}{cV:Nat->Nat->Prop}{L':List<|Nat×ae}(hX:zb X U)(hT:B.inv=nW X U)(pt:n<top)(hg:h.get n=some (.tok k v))(hr:ρ n=some (b,N))(r:Rel B ρ h w)(h1:∀n k v,n<top->h.get n=some (.tok k v)->∃b N,ρ n=some (b,N)/\B.inv k v ρ w b (cV n)/\cV n b/\∀x,cV n x->(x<w.heap.size/\B.dU<=x)/\B.may x/\jY ρ h x/\∀j sh,ρ (hn j x sh)=none)(h2:∀n m x k v k' v',n<top->m<top->h.get n=some (.tok k v)->h.get m=some (.tok k' v')->n≠m->cV n x->¬cV m x)(q3:Rel (sa B ρ w<|cV n) σ h4 w')(q4:cP (sa B ρ w<|cV n) w w')(o7:σ U=some (b,N0))(zc:∀m x,top<=m->ρ m=some x->σ m=some x)(hx:X k v' L')(hL:∀m o,(m,o)∈L'->h4.get m=some o):
 Ext a a ρ (cL ρ σ)/\iM σ (cL ρ σ)/\Rel B (cL ρ σ) (h.put n<|some<|.tok k v') w'/\cP B w w':=by
 obtain⟨b0,M0,r1,_,anP,hH⟩:=h1 n k v pt hg;rw[hr] at r1;cases r1;have nm:=hX.nm k v' L' hx;have hl:ρ.le<|cL ρ σ:=by
  intro k x e;unfold cL;by_cases hk:top<=k
  ·rw[if_pos hk];exact zc k x hk e
  ·rw[if_neg hk];exact e
 have cY:∀k,k<top->cL ρ σ k=ρ k:=fun k hk=>by unfold cL;rw[if_neg ak]
 have ga:∀k,top<=k->cL ρ σ k=σ k:=fun k hk=>by unfold cL;rw[if_pos hk]
 have g:∀m,m<top->(h.put n<|some<|.tok k v').get m=if m=n then some (.tok k v') else h.get m:=fun m hm=>Tr.dt _ _ _ _ pt hm
 have CA:cP B w w':=⟨q4.os,q4.tape,q4.output,q4.size,fun x hx hm=>q4.block x hx fun z=>by
  rcases z with z|z
  ·have z:w.heap.size<=x:=z;omega
  ·exact hm (hH x z).2.1⟩
 have mX:∀x,x<w.heap.size->¬cV n x->w'.heap[x]? =w.heap[x]? :=fun x hx hm=>q4.block x hx fun z=>by
  rcases z with z|z
  ·have z:w.heap.size<=x:=z;omega
  ·exact hm z
 have other:∀m o x M,m<top->m≠n->h.get m=some o->ρ m=some (x,M)->¬cV n x:=fun m o x M hm cz ho e ja=>by
  obtain⟨⟨_,c1⟩,_,c3,_⟩:=hH x ja;cases cH:o.du with
  |false=>exact c3 m o M hm ho cH e
  |true=>
   by_cases hf:o.mW=true
   ·obtain⟨b',N',e1,e2⟩:=r.tk.1.2 m o hm ho hf;rw[e] at e1;cases e1;omega
   ·cases o<;>first|(cases cH;done)|(exact hf rfl)|skip
    rename_i k' wV;obtain⟨b',N',e1,_,e3,_⟩:=h1 m k' wV hm ho;rw[e] at e1;cases e1;exact h2 n m x k v k' wV pt hm hg ho (Ne.symm cz) ja e3
 have sU:∀x,jY ρ h x->jY (cL ρ σ) (h.put n<|some<|.tok k v') x:=fun x hn m o M hm ho cH e=>by
  rw[g m hm] at ho;by_cases q:m=n
  ·rw[if_pos q] at ho;cases ho;cases cH
  ·rw[if_neg q] at ho;rw[cY m hm] at e;exact hn m o M hm ho cH e
 have Az:∀x,w.heap.size<=x->jY (cL ρ σ) (h.put n<|some<|.tok k v') x:=fun x hx m o M hm ho cH e=>by
  rw[g m hm] at ho;by_cases q:m=n
  ·rw[if_pos q] at ho;cases ho;cases cH
  ·rw[if_neg q] at ho;rw[cY m hm] at e;obtain⟨b1,N1,o1,e1,e2,_⟩:=r.is m o hm ho;rw[e] at e1;cases e1;have:=gV e2;omega
 obtain⟨⟨_,_⟩,Hq,t1,t2⟩:=q3.tk;obtain⟨oR,hR⟩:=hX.root k v' L' hx;have gb:∀m o,(m,o)∈L'->m<top:=fun m o hm=>(nm _ hm).2.1;have ry:∀m o,(m,o)∈L'->∃x M o',σ m=some (x,M)/\w'.heap[x]? =some o'/\OR σ M o o'/\(o.du=false->w.heap.size<=x\/cV n x):=fun m o hm=>q3.is m o (gb m o hm)<|hL m o hm;have kind:∀m o,(m,o)∈L'->o.du=false\/∃k1 v1,o= .tok k1 v1:=fun m o hm=>by
  rcases(nm _ hm).2.2.1 with y|y
  ·exact .inl (ae.vt y).2
  ·cases o<;>first|exact .inr ⟨_,_,rfl⟩|cases y
 let Hn:Nat->Prop:=fun x=>(∃m o M,(m,o)∈L'/\o.du=false/\σ m=some (x,M))\/∃m k1 v1,(m,ae.tok k1 v1)∈L'/\Hq m x;have HC:∀m o,(m,o)∈L'->∀x M,σ m=some (x,M)->Hn x:=fun m o hm x M e=>by
  rcases kind m o hm with q|⟨k1,v1,rfl⟩
  ·exact .inl ⟨m,o,M,hm,q,e⟩
  ·obtain⟨b1,N1,e1,_,e3,_⟩:=t1 m k1 v1 (gb _ _ hm)<|hL _ _ hm;rw[e] at e1;cases e1;exact .inr ⟨m,k1,v1,hm,e3⟩
 have Fm:∀x,Hn x->x<w'.heap.size/\(w.heap.size<=x\/cV n x)/\∀j sh,σ (hn j x sh)=none:=fun x hx=>by
  rcases hx with⟨m,o,M,hm,q,e⟩|⟨m,k1,v1,hm,q⟩
  ·obtain⟨x1,M1,o',e1,e2,_,e4⟩:=ry m o hm;rw[e] at e1;cases e1;refine⟨gV e2,e4 q,fun j sh=>Classical.byContradiction fun z=>?_⟩;obtain⟨_,_,_,_,_,_,_,z3,_⟩:=q3.fz j x sh z;exact z3 m o M (gb m o hm) (hL m o hm) q e
  ·obtain⟨b1,N1,_,_,_,e4⟩:=t1 m k1 v1 (gb _ _ hm)<|hL _ _ hm;obtain⟨⟨c1,_⟩,c2,_,c4⟩:=e4 x q;exact⟨c1,c2,c4⟩
 refine⟨⟨hl,fun k hk _=>cY k hk⟩,fun k x hk e=>by rw[ga k hk];exact e,⟨fun m o hm ho=>?_,fun m m2 o p x M M2 hm cW ho hp cZ e1 e2=>?_,fun m i es ex left cur hm ho=>?_,fun x hx=>r.size x<|Nat.le_trans q4.size hx,fun i j m es ex left cur hJ iW iK iL hi hj ho hp=>?_,fun j x sh e=>?_,?_⟩,CA⟩
 ·rw[g m hm] at ho;by_cases q:m=n
  ·subst q;rw[if_pos rfl] at ho;cases ho;obtain⟨x,M,o',e1,e2,_,_⟩:=ry U oR hR;rw[o7] at e1;cases e1;exact⟨b,N,o',(cY m hm).trans hr,e2,trivial,fun z=>by cases z⟩
  ·rw[if_neg q] at ho;obtain⟨b1,N1,o1,e1,e2,e3,e4⟩:=r.is m o hm ho;exact⟨b1,N1,o1,(cY m hm).trans e1,(mX b1 (gV e2)<|other m o b1 N1 hm q ho e1).trans e2,e3.mono hl,e4⟩
 ·rw[cY m hm] at e1;rw[cY m2 cW] at e2;rw[g m hm] at ho;rw[g m2 cW] at hp;have dG:∀m o,(if m=n then some (ae.tok k v') else h.get m)=some o->∃q,h.get m=some q/\(o.du=false->q.du=false):=fun m o ho=>by
   by_cases q:m=n
   ·rw[if_pos q] at ho;cases ho;rw[q];exact⟨_,hg,fun z=>by cases z⟩
   ·rw[if_neg q] at ho;exact⟨o,ho,id⟩
  obtain⟨o1,a1,a2⟩:=dG m o ho;obtain⟨o2,a3,a4⟩:=dG m2 p hp;exact r.one m m2 o1 o2 x M M2 hm cW a1 a3 (cZ.imp a2 a4) e1 e2
 ·rw[g m hm] at ho;by_cases q:m=n
  ·rw[if_pos q] at ho;cases ho
  ·rw[if_neg q] at ho;obtain⟨hi,fx,b1,N1,bm,M,l,bj,seen,u1,u2,u3,u4,u5⟩:=r.iter m i es ex left cur hm ho;have iz:i≠n:=by intro e;subst e;rw[hg] at fx;cases fx
   have u:np ρ w' m i es ex left cur:=⟨b1,N1,bm,M,l,bj,seen,u1,u2,(mX b1 (gV u3)<|other m _ b1 N1 hm q ho u1).trans u3,(mX bm (gV u4)<|other i _ bm M hi iz fx u2).trans u4,u5⟩;exact⟨hi,by rw[g i hi,if_neg iz];exact fx,u.mono hl⟩
 ·rw[g i hi] at ho;rw[g j hj] at hp;by_cases q:i=n
  ·rw[if_pos q] at ho;cases ho
  ·rw[if_neg q] at ho;by_cases q2:j=n
   ·rw[if_pos q2] at hp;cases hp
   ·rw[if_neg q2] at hp;exact r.lone i j m es ex left cur hJ iW iK iL hi hj ho hp
 ·rw[ga _<|gg _ _ _] at e;obtain⟨g0,l,c,e',fr,g1,g2,_,g4⟩:=q3.fz j x sh e;have mV:∀i y,l[i]? =some y->∃v,c[sh+i]? =some v/\VR (gq<|cL ρ σ) y v/\y.cj=true:=fun i y hy=>by
   obtain⟨v,k1,k2,k3⟩:=g4 i y hy;refine⟨v,k1,VR.mono (fun z u q=>?_) _ _ k2,k3⟩;unfold gq at q ⊢;split at q
   ·rename_i hk;rw[if_pos hk,ga z hk];exact q
   ·cases q
  by_cases q:ρ (hn j x sh)≠none
  ·obtain⟨z0,l',c',e2,kl,z1,z2,z3,_⟩:=r.fz j x sh q;exact⟨z0,l,c,e',fr,g1,g2,sU x z3,mV⟩
  ·rcases g0.resolve_left q with z|z
   ·have z:w.heap.size<=x:=z;exact⟨.inr<|r.size x z,l,c,e',fr,g1,g2,Az x z,mV⟩
   ·exact⟨.inr (hH x z).2.1,l,c,e',fr,g1,g2,sU x (hH x z).2.2.1,mV⟩
 ·let H':Nat->Nat->Prop:=fun m x=>if m=n then Hn x else cV m x
  have IH:∀x,Hn x->H' n x:=fun x hx=>by show(if n=n then Hn x else _);rw[if_pos rfl];exact hx
  have hsn:∀x,H' n x->Hn x:=fun x hx=>by have hx:(if n=n then Hn x else cV n x):=hx;rw[if_pos rfl] at hx;exact hx
  have hso:∀m x,m≠n->H' m x->cV m x:=fun m x hm hx=>by have hx:(if m=n then Hn x else cV m x):=hx;rw[if_neg hm] at hx;exact hx
  have aj4:∀m x,m≠n->cV m x->H' m x:=fun m x hm hx=>by show(if m=n then Hn x else cV m x);rw[if_neg hm];exact hx
  have Dg:H' n=Hn:=funext fun x=>propext ⟨hsn x,IH x⟩;have zd:∀m,m≠n->H' m=cV m:=fun m hm=>funext fun x=>propext ⟨hso m x hm,aj4 m x hm⟩;refine⟨⟨Nat.le_trans r.tk.1.1 q4.size,fun m o hm ho hf=>?_⟩,H',fun m k1 v1 hm ho=>?_,fun m m2 x k1 v1 k2 v2 hm cW ho hp cz y1 y2=>?_⟩
  ·rw[g m hm] at ho;by_cases q:m=n
   ·rw[if_pos q] at ho;cases ho;cases hf
   ·rw[if_neg q] at ho;obtain⟨b1,N1,e1,e2⟩:=r.tk.1.2 m o hm ho hf;exact⟨b1,N1,(cY m hm).trans e1,e2⟩
  ·rw[g m hm] at ho;by_cases q:m=n
   ·subst q;rw[if_pos rfl] at ho;cases ho;rw[Dg];refine⟨b,N,(cY m hm).trans hr,?_,HC U oR hR b N0 o7,fun x hx=>?_⟩
    ·rw[hT];let bl:Nat->Nat:=fun m=>match σ m with|some (x,_)=>x|none=>0
     have nG:∀m x M,σ m=some (x,M)->bl m=x:=fun m x M e=>by show(match σ m with|some (x,_)=>x|none=>0)=x;rw[e]
     refine .mk L' (fun m=>if m∈L'.map (·.1) then σ m else none) bl Hq N0 hx ?_ (fun m hm=>?_) (fun m o hm=>?_) (fun m m2 o p hm cW e=>?_) (fun m k1 v1 hm=>?_) (fun m k1 v1 hm=>?_) (fun m k1 v1 hm x hx=>.inr ⟨m,k1,v1,hm,hx⟩) (fun m k1 v1 m2 o hm cW ho y=>?_) fun m k1 v1 m2 k2 v2 x hm cW cz y1 y2=>t2 m m2 x k1 v1 k2 v2 (gb _ _ hm) (gb _ _ cW) (hL _ _ hm) (hL _ _ cW) cz y1 y2
     ·rw[if_pos<|List.mem_map.2 ⟨_,hR,rfl⟩];exact o7
     ·refine if_neg fun z=>?_;obtain⟨p,hp,rfl⟩:=List.mem_map.1 z;have:=(nm p hp).1;omega
     ·obtain⟨x,M,o',e1,e2,e3,_⟩:=ry m o hm;refine⟨M,o',?_,by rw[nG m x M e1];exact e2,?_,by rw[nG m x M e1];exact HC m o hm x M e1⟩
      ·rw[if_pos<|List.mem_map.2 ⟨_,hm,rfl⟩,nG m x M e1];exact e1
      ·refine((nm _ hm).2.2.2 _ _ _ e3).mono fun i y hi=>?_;have hi:(if top<=i\/i∈L'.map (·.1) then σ i else none)=some y:=hi;unfold yJ;split at hi
       ·rename_i q;rcases q with q|q
        ·rw[if_pos q,ga i q];exact hi
        ·by_cases z:top<=i
         ·rw[if_pos z,ga i z];exact hi
         ·rw[if_neg z];show(if i∈L'.map (·.1) then σ i else none)=_;rw[if_pos q];exact hi
       ·cases hi
     ·obtain⟨x,M,_,e1,_,_,_⟩:=ry m o hm;obtain⟨x2,M2,_,e2,_,_,_⟩:=ry m2 p cW;rw[nG m x M e1,nG m2 x2 M2 e2] at e;subst e;rcases kind m o hm with y|⟨k1,v1,rfl⟩
      ·exact q3.one m m2 o p x M M2 (gb _ _ hm) (gb _ _ cW) (hL _ _ hm) (hL _ _ cW) (.inl y) e1 e2
      ·rcases kind m2 p cW with y|⟨k2,v2,rfl⟩
       ·exact q3.one m m2 _ p x M M2 (gb _ _ hm) (gb _ _ cW) (hL _ _ hm) (hL _ _ cW) (.inr y) e1 e2
       ·refine Classical.byContradiction fun cz=>?_;obtain⟨b1,N1,f1,_,f3,_⟩:=t1 m k1 v1 (gb _ _ hm)<|hL _ _ hm;obtain⟨b2,N2,f4,_,f6,_⟩:=t1 m2 k2 v2 (gb _ _ cW)<|hL _ _ cW;rw[e1] at f1;cases f1;rw[e2] at f4;cases f4;exact t2 m m2 x k1 v1 k2 v2 (gb _ _ hm) (gb _ _ cW) (hL _ _ hm) (hL _ _ cW) cz f3 f6
     ·obtain⟨b1,N1,f1,f2,_,_⟩:=t1 m k1 v1 (gb _ _ hm)<|hL _ _ hm;rw[nG m b1 N1 f1];have f2:B.inv k1 v1 σ w' b1<|Hq m:=f2;rw[hT] at f2;exact f2.mono (fun i y hi e=>by rw[ga i hi];exact e) fun _ _=>rfl
     ·obtain⟨b1,N1,f1,_,f3,_⟩:=t1 m k1 v1 (gb _ _ hm)<|hL _ _ hm;rw[nG m b1 N1 f1];exact f3
     ·obtain⟨b1,N1,_,_,_,f4⟩:=t1 m k1 v1 (gb _ _ hm)<|hL _ _ hm;obtain⟨x2,M2,_,e2,_,_,_⟩:=ry m2 o cW;rw[nG m2 x2 M2 e2] at y;obtain⟨_,_,c3,_⟩:=f4 x2 y;rcases kind m2 o cW with z|⟨k2,v2,rfl⟩
      ·exact c3 m2 o M2 (gb _ _ cW) (hL _ _ cW) z e2
      ·cases ho
    ·obtain⟨c1,c2,c3⟩:=Fm x hx;refine⟨⟨c1,?_⟩,?_,?_,fun j sh=>by rw[ga _<|gg _ _ _];exact c3 j sh⟩
     ·rcases c2 with z|z
      ·exact Nat.le_trans r.tk.1.1 z
      ·exact(hH x z).1.2
     ·rcases c2 with z|z
      ·exact r.size x z
      ·exact(hH x z).2.1
     ·rcases c2 with z|z
      ·exact Az x z
      ·exact sU x (hH x z).2.2.1
   ·rw[if_neg q] at ho;rw[zd m q];obtain⟨b1,N1,f1,f2,f3,f4⟩:=h1 m k1 v1 hm ho;refine⟨b1,N1,(cY m hm).trans f1,B.mono f2 (fun i y _ e=>hl _ _ e) fun x hx=>?_,f3,fun x hx=>?_⟩
    ·exact mX x (f4 x hx).1.1 fun z=>h2 n m x k v k1 v1 pt hm hg ho (Ne.symm q) z hx
    ·obtain⟨⟨c1,cl⟩,c2,c3,c4⟩:=f4 x hx;refine⟨⟨Nat.lt_of_lt_of_le c1 q4.size,cl⟩,c2,sU x c3,fun j sh=>Classical.byContradiction fun z=>?_⟩;rw[ga _<|gg _ _ _] at z;rcases(q3.fz j x sh z).1 with y|y
     ·exact y<|c4 j sh
     ·rcases y with y|y
      ·have y:w.heap.size<=x:=y;omega
      ·exact h2 n m x k v k1 v1 pt hm hg ho (Ne.symm q) y hx
  ·rw[g m hm] at ho;rw[g m2 cW] at hp;have cl:∀m k1 v1,m<top->m≠n->h.get m=some (.tok k1 v1)->∀x,Hn x->¬cV m x:=fun m k1 v1 hm cz ho x hx y=>by
    obtain⟨_,c2,_⟩:=Fm x hx;rcases c2 with z|z
    ·obtain⟨b1,N1,_,_,_,f4⟩:=h1 m k1 v1 hm ho;have:=(f4 x y).1.1;omega
    ·exact h2 n m x k v k1 v1 pt hm hg ho (Ne.symm cz) z y
   by_cases q:m=n
   ·rw[if_pos q] at ho;cases ho;have q2:m2≠n:=fun e=>cz<|q.trans e.symm;rw[if_neg q2] at hp;rw[q,Dg] at y1;rw[zd m2 q2] at y2;exact cl m2 k2 v2 cW q2 hp x y1 y2
   ·rw[if_neg q] at ho;rw[zd m q] at y1;by_cases q2:m2=n
    ·rw[if_pos q2] at hp;cases hp;rw[q2,Dg] at y2;exact cl m k1 v1 hm q ho x y2 y1
    ·rw[if_neg q2] at hp;rw[zd m2 q2] at y2;exact h2 m m2 x k1 v1 k2 v2 hm cW ho hp cz y1 y2
end Go.Rn
namespace Go.Rn
open Go.RowKit
variable {s1 s:AS}
theorem U4{n:Nat}{o:Option ae}{u:Unit}(h:lz n o s= .ok u s1):
 n<s.nx/\n<top/\s1.h=s.h.put n o/\s1.nx=s.nx:=by
 obtain⟨h1,h2,h3,rfl⟩:=VT h;by_cases e:n<s.mark
 ·rw[if_pos e];exact⟨h1,h2,rfl,rfl⟩
 ·rw[if_neg e];exact⟨h1,h2,rfl,rfl⟩
def mf(X:TX)(P:Program)(rs:List ResultVar)(k:Nat)(y:AV)(v':AV):=Fin P rs fun y1 s'=>y1=y/\∃L',X k v' L'/\∀m o,(m,o)∈L'->s'.h.get m=some o
theorem U5{X:TX}{P:Program}{B:aJ}{f U k:Nat}{ns:List Nat}{h0:Tr ae}{kn:List<|Nat×Option ae}{val:AV->List AV->Option (AV×AV)}{fn:Func}{body:Code}{ρ:aw}{w:World}(hX:zb X U)(hT:B.inv=nW X U)(hP:bB P)(ch:P.funcs[f]? =some fn)(cw:fn.body=some body)(dD:(fn.name == "runtime.NumGoroutine")=false)(fD:fH<=U)(dI:U<=top)(dE:∀n o,n<top->h0.get n=some o->n∈ns)(eh:∀n∈ns,n<U)(iA:∀n o,(n,some o)∈kn->h0.get n=some o)(iB:∀p∈kn,p.1<top)(eK:∀v rest y v',val v rest=some (y,v')->max fn.ntmps (rest.length+1)<=top/\∀L,X k v L->∃nx,U<nx/\nx<=top/\(∀p∈L,p.1<nx)/\∀B':aJ,B'.F=B.F->B'.inv=B.inv->
 av P B' (U+1) (mf X P fn.results.toList k y v') ⟨f,dZ<|.ptr (some (U,0))::rest,max fn.ntmps<|rest.length+1,[.code body],[],none⟩ ⟨fL<|kn++bO L,nx,0,[],[]⟩){SI:aO}{args:List AV}{x:AV}{vs:Array Value}(r:Rel B ρ s.h w)(hg:gk ρ)(h:yK U ns h0 k val SI args s= .ok x s1)(hv:az ρ args vs.toList):jo P ((callFunc f vs).run P w)<|kg B ρ s s1 w x:=by
 unfold yK at h;split at h
 ·rename_i n rest;obtain⟨hh,h1⟩:=cX h;obtain⟨ga,Iw⟩:=and_true.1 hh;obtain⟨u,s2,h2,h3⟩:=M.aR h1;obtain⟨o,s3,h4,h5⟩:=M.aR h3;obtain⟨a1,a2,a3⟩:=tB h2;obtain⟨b1,b2,b3,b4⟩:=fY h4;split at h5
  ·rename_i k' v;obtain⟨hk,h6⟩:=cX h5;have hk:=Nat.eq_of_beq_eq_true hk;subst hk;obtain⟨p,h7,h8⟩:=bu h6;obtain⟨h9,gH⟩:=cX h8;obtain⟨u2,s4,uV,rr⟩:=M.aR gH;obtain⟨rfl,rfl⟩:=bH rr;obtain⟨c1,c2,c3,c4⟩:=U4 uV;obtain⟨y,v'⟩:=p;have kh:s.h.get n=some (.tok k v):=by rw[←a1];exact b2
   obtain⟨_,cV,t1,t2⟩:=r.tk;obtain⟨b,N,d1,d2,d3,d4⟩:=t1 n k v c2 kh;have Zq:=d2;rw[hT] at Zq;obtain⟨L,loc,N0,hx,o7,aib,mY⟩:=ah9 hX hT dI r dE eh iA iB (fun n hn=>by obtain⟨_,o,p,h⟩:=a3 n hn;exact⟨o,p,h⟩) d4 Zq;obtain⟨q1,q2⟩:=eK _ _ _ _ h7;obtain⟨nx,n1,n2,n3,q3⟩:=q2 L hx;have fi:bE (⟨fL<|kn++bO L,nx,0,[],[]⟩:AS):=⟨Nat.zero_le _,n2⟩;have aj5:U<top:=Nat.lt_of_lt_of_le n1 n2;have hi:iM ρ<|mJ U ρ loc:=fun m x hm e=>by unfold mJ;rw[if_neg ak,if_pos hm];exact e
   have WY:mJ U ρ loc U=some (b,N0):=by unfold mJ;rw[if_neg ak,if_neg ak];exact o7
   have jJ:az (mJ U ρ loc) (.ptr (some (U,0))::rest) vs.toList:=by simp only[az,VR] at hv ⊢;obtain⟨v0,vr,e1,⟨b',N',e2,e3⟩,e4⟩:=hv;rw[d1] at e2;cases e2;exact⟨v0,vr,e1,⟨b,N0,WY,e3⟩,AV.zW hi ga e4⟩
   have bI:=av.Em (B:=sa B ρ w<|cV n) (s:=⟨fL<|kn++bO L,nx,0,[],[]⟩) (args:=.ptr (some (U,0))::rest) (vs:=vs) hP ch cw q1 (q3 _ rfl rfl) fi mY (fun g hZ=>by
    obtain⟨N,e⟩:=hg g hZ;exact⟨N,by unfold mJ;rw[if_pos<|Nat.lt_of_lt_of_le hZ fD];exact e⟩) (fun m hm jt=>by
    have hm:nx<=m:=hm;unfold mJ;rw[if_neg ak,if_neg ak];cases e:loc m with
    |none=>rfl
    |some z=>obtain⟨o,q⟩:=aib m z e;have:=n3 _ q;have:m<nx:=this;omega) jJ
   rw[tC ch cw dD];show Calls P f vs w _;refine bI.mono fun e w'=>?_;rintro ⟨y1,x',s5,rfl,⟨rfl,L',ru,MB⟩,_,σ,e0,IG,e1,e2,e3⟩;obtain⟨g1,g2,g3,g4⟩:=agR (a:=s.nx) (v':=v') hX hT c2 kh d1 r t1 t2 e2 e3 ((e0 U (Nat.lt_succ_self _) aj5).trans WY) (fun m z hm q=>IG m z hm<|hi m z hm q) ru MB;refine⟨y1,rfl,cL ρ σ,by rw[c4,b4,a2];exact g1,AV.oY g2 h9 e1,?_,g4⟩;rw[c3,b3,a1];exact g3
  ·cases h5
 ·cases h
end Go.Rn
namespace Go.Rn
open Go.RowKit
theorem agS{X:TX}{U k a:Nat}{v:AV}{B:aJ}{ρ σ:aw}{w w':World}{h h4:Tr ae}{b N0:Nat}{L':List<|Nat×ae}(hX:zb X U)(hT:B.inv=nW X U)(ht:U<=top)(ay:a<top)(ha:ρ a=none)(r:Rel B ρ h w)(q3:Rel (rZ B ρ w) σ h4 w')(q4:cP (rZ B ρ w) w w')(hle:(gm U ρ).le σ)(o7:σ U=some (b,N0))(hx:X k v L')(hL:∀m o,(m,o)∈L'->h4.get m=some o):
 Ext a (a+1) ρ (eQ (cL ρ σ) a (b,0))/\iM σ (eQ (cL ρ σ) a (b,0))/\Rel B (eQ (cL ρ σ) a (b,0)) (h.put a<|some<|.tok k v) w'/\cP B w w':=by
 obtain⟨b1,b2,R1,b4⟩:=Ky (a:=a) ht r q3 q4 hle;have nm:=hX.nm k v L' hx;have cY:∀k,k<top->cL ρ σ k=ρ k:=fun k hk=>by unfold cL;rw[if_neg ak]
 have ga:∀k,top<=k->cL ρ σ k=σ k:=fun k hk=>by unfold cL;rw[if_pos hk]
 have RY:cL ρ σ a=none:=(cY a ay).trans ha;have hl:(cL ρ σ).le<|eQ (cL ρ σ) a (b,0):=oD RY;have Fo:∀k,top<=k->eQ (cL ρ σ) a (b,0) k=σ k:=fun k hk=>by rw[gM _ _ ak];exact ga k hk
 have mm:h.get a=none:=by
  cases e:h.get a with
  |none=>rfl
  |some p=>obtain⟨_,_,_,h1,_⟩:=r.is a p ay e;rw[ha] at h1;cases h1
 have g:∀m,m<top->(h.put a<|some<|.tok k v).get m=if m=a then some (.tok k v) else h.get m:=fun m hm=>Tr.dt _ _ _ _ ay hm
 have mX:∀x,x<w.heap.size->w'.heap[x]? =w.heap[x]? :=fun x hx=>q4.block x hx fun z=>by have z:w.heap.size<=x:=z;omega
 have sU:∀x,jY ρ h x->jY (eQ (cL ρ σ) a (b,0)) (h.put a<|some<|.tok k v) x:=fun x hn m o M hm ho cH e=>by
  rw[g m hm] at ho;by_cases q:m=a
  ·rw[if_pos q] at ho;cases ho;cases cH
  ·rw[if_neg q] at ho;rw[gM _ _ q,cY m hm] at e;exact hn m o M hm ho cH e
 have Az:∀x,w.heap.size<=x->jY ρ h x:=fun x hx m o M hm ho cH e=>by obtain⟨b1,N1,o1,e1,e2,_⟩:=r.is m o hm ho;rw[e] at e1;cases e1;have:=gV e2;omega
 obtain⟨⟨_,_⟩,cV,h1,h2⟩:=r.tk;obtain⟨⟨_,_⟩,Hq,t1,t2⟩:=q3.tk;obtain⟨oR,hR⟩:=hX.root k v L' hx;have gb:∀m o,(m,o)∈L'->m<top:=fun m o hm=>(nm _ hm).2.1;have ry:∀m o,(m,o)∈L'->∃x M o',σ m=some (x,M)/\w'.heap[x]? =some o'/\OR σ M o o'/\(o.du=false->w.heap.size<=x):=fun m o hm=>q3.is m o (gb m o hm)<|hL m o hm;have kind:∀m o,(m,o)∈L'->o.du=false\/∃k1 v1,o= .tok k1 v1:=fun m o hm=>by
  rcases(nm _ hm).2.2.1 with y|y
  ·exact .inl (ae.vt y).2
  ·cases o<;>first|exact .inr ⟨_,_,rfl⟩|cases y
 let Hn:Nat->Prop:=fun x=>(∃m o M,(m,o)∈L'/\o.du=false/\σ m=some (x,M))\/∃m k1 v1,(m,ae.tok k1 v1)∈L'/\Hq m x;have HC:∀m o,(m,o)∈L'->∀x M,σ m=some (x,M)->Hn x:=fun m o hm x M e=>by
  rcases kind m o hm with q|⟨k1,v1,rfl⟩
  ·exact .inl ⟨m,o,M,hm,q,e⟩
  ·obtain⟨b1,N1,e1,_,e3,_⟩:=t1 m k1 v1 (gb _ _ hm)<|hL _ _ hm;rw[e] at e1;cases e1;exact .inr ⟨m,k1,v1,hm,e3⟩
 have Fm:∀x,Hn x->x<w'.heap.size/\w.heap.size<=x/\∀j sh,σ (hn j x sh)=none:=fun x hx=>by
  rcases hx with⟨m,o,M,hm,q,e⟩|⟨m,k1,v1,hm,q⟩
  ·obtain⟨x1,M1,o',e1,e2,_,e4⟩:=ry m o hm;rw[e] at e1;cases e1;refine⟨gV e2,e4 q,fun j sh=>Classical.byContradiction fun z=>?_⟩;obtain⟨_,_,_,_,_,_,_,z3,_⟩:=q3.fz j x sh z;exact z3 m o M (gb m o hm) (hL m o hm) q e
  ·obtain⟨b1,N1,_,_,_,e4⟩:=t1 m k1 v1 (gb _ _ hm)<|hL _ _ hm;obtain⟨⟨c1,_⟩,c2,_,c4⟩:=e4 x q;exact⟨c1,c2,c4⟩
 have II:Hn b:=HC U oR hR b N0 o7;refine⟨⟨aw.le_trans b1.le hl,fun k hk hka=>(gM _ _ ak).trans<|b1.out k hk ak⟩,fun m x hm e=>by rw[Fo m hm];exact e,⟨fun m o hm ho=>?_,fun m m2 o p x M M2 hm cW ho hp cZ e1 e2=>?_,fun m i es ex left cur hm ho=>?_,R1.size,fun i j m es ex left cur hJ iW iK iL hi hj ho hp=>?_,fun j x sh e=>?_,?_⟩,b4⟩
 ·rw[g m hm] at ho;by_cases q:m=a
  ·subst q;rw[if_pos rfl] at ho;cases ho;obtain⟨x,M,o',e1,e2,_,_⟩:=ry U oR hR;rw[o7] at e1;cases e1;exact⟨b,0,o',iQ _ _ _,e2,trivial,fun z=>by cases z⟩
  ·rw[if_neg q] at ho;obtain⟨b1,N1,o1,e1,e2,e3,e4⟩:=R1.is m o hm ho;exact⟨b1,N1,o1,hl _ _ e1,e2,e3.mono hl,e4⟩
 ·rw[g m hm] at ho;rw[g m2 cW] at hp;have sK:∀m o M,m<top->h.get m=some o->o.du=false->ρ m=some (b,M)->False:=fun m o M hm ho cH e=>Az b (Fm b II).2.1 m o M hm ho cH e;by_cases q:m=a
  ·rw[if_pos q] at ho;cases ho;by_cases q2:m2=a
   ·rw[q,q2]
   ·rw[if_neg q2] at hp;rw[q,iQ] at e1;cases e1;rw[gM _ _ q2,cY m2 cW] at e2;exact(sK m2 p M2 cW hp (cZ.resolve_left fun z=>by cases z) e2).elim
  ·rw[if_neg q] at ho;by_cases q2:m2=a
   ·rw[if_pos q2] at hp;cases hp;rw[q2,iQ] at e2;cases e2;rw[gM _ _ q,cY m hm] at e1;exact(sK m o M hm ho (cZ.resolve_right fun z=>by cases z) e1).elim
   ·rw[if_neg q2] at hp;rw[gM _ _ q] at e1;rw[gM _ _ q2] at e2;exact R1.one m m2 o p x M M2 hm cW ho hp cZ e1 e2
 ·rw[g m hm] at ho;by_cases q:m=a
  ·rw[if_pos q] at ho;cases ho
  ·rw[if_neg q] at ho;obtain⟨hi,fx,u⟩:=R1.iter m i es ex left cur hm ho;have iz:i≠a:=by intro e;subst e;rw[mm] at fx;cases fx
   exact⟨hi,by rw[g i hi,if_neg iz];exact fx,u.mono hl⟩
 ·rw[g i hi] at ho;rw[g j hj] at hp;by_cases q:i=a
  ·rw[if_pos q] at ho;cases ho
  ·rw[if_neg q] at ho;by_cases q2:j=a
   ·rw[if_pos q2] at hp;cases hp
   ·rw[if_neg q2] at hp;exact R1.lone i j m es ex left cur hJ iW iK iL hi hj ho hp
 ·rw[gM _ _ (by have:=gg j x sh;omega)] at e;obtain⟨g0,l,c,e',fr,g1,g2,g3,g4⟩:=R1.fz j x sh e;refine⟨g0,l,c,e',fr,g1,g2,fun m o M hm ho cH e=>?_,fun i y hy=>by obtain⟨v,k1,k2,k3⟩:=g4 i y hy;exact⟨v,k1,VR.mono (GH hl) _ _ k2,k3⟩⟩;rw[g m hm] at ho;by_cases q:m=a
  ·rw[if_pos q] at ho;cases ho;cases cH
  ·rw[if_neg q] at ho;rw[gM _ _ q] at e;exact g3 m o M hm ho cH e
 ·let H':Nat->Nat->Prop:=fun m x=>if m=a then Hn x else cV m x
  have Dg:H' a=Hn:=funext fun x=>if_pos rfl;have zd:∀m,m≠a->H' m=cV m:=fun m hm=>funext fun x=>if_neg hm;refine⟨⟨Nat.le_trans r.tk.1.1 q4.size,fun m o hm ho hf=>?_⟩,H',fun m k1 v1 hm ho=>?_,fun m m2 x k1 v1 k2 v2 hm cW ho hp cz y1 y2=>?_⟩
  ·rw[g m hm] at ho;by_cases q:m=a
   ·rw[if_pos q] at ho;cases ho;cases hf
   ·rw[if_neg q] at ho;obtain⟨b1,N1,e1,e2⟩:=r.tk.1.2 m o hm ho hf;exact⟨b1,N1,(gM _ _ q).trans<|(cY m hm).trans e1,e2⟩
  ·rw[g m hm] at ho;by_cases q:m=a
   ·subst q;rw[if_pos rfl] at ho;cases ho;rw[Dg];refine⟨b,0,iQ _ _ _,?_,II,fun x hx=>?_⟩
    ·rw[hT];let bl:Nat->Nat:=fun m=>match σ m with|some (x,_)=>x|none=>0
     have nG:∀m x M,σ m=some (x,M)->bl m=x:=fun m x M e=>by show(match σ m with|some (x,_)=>x|none=>0)=x;rw[e]
     refine .mk L' (fun m=>if m∈L'.map (·.1) then σ m else none) bl Hq N0 hx ?_ (fun m hm=>?_) (fun m o hm=>?_) (fun m m2 o p hm cW e=>?_) (fun m k1 v1 hm=>?_) (fun m k1 v1 hm=>?_) (fun m k1 v1 hm x hx=>.inr ⟨m,k1,v1,hm,hx⟩) (fun m k1 v1 m2 o hm cW ho y=>?_) fun m k1 v1 m2 k2 v2 x hm cW cz y1 y2=>t2 m m2 x k1 v1 k2 v2 (gb _ _ hm) (gb _ _ cW) (hL _ _ hm) (hL _ _ cW) cz y1 y2
     ·rw[if_pos<|List.mem_map.2 ⟨_,hR,rfl⟩];exact o7
     ·refine if_neg fun z=>?_;obtain⟨p,hp,rfl⟩:=List.mem_map.1 z;have:=(nm p hp).1;omega
     ·obtain⟨x,M,o',e1,e2,e3,_⟩:=ry m o hm;refine⟨M,o',?_,by rw[nG m x M e1];exact e2,?_,by rw[nG m x M e1];exact HC m o hm x M e1⟩
      ·rw[if_pos<|List.mem_map.2 ⟨_,hm,rfl⟩,nG m x M e1];exact e1
      ·refine((nm _ hm).2.2.2 _ _ _ e3).mono fun i y hi=>?_;have hi:(if top<=i\/i∈L'.map (·.1) then σ i else none)=some y:=hi;unfold yJ;split at hi
       ·rename_i q;rcases q with q|q
        ·rw[if_pos q,Fo i q];exact hi
        ·by_cases z:top<=i
         ·rw[if_pos z,Fo i z];exact hi
         ·rw[if_neg z];show(if i∈L'.map (·.1) then σ i else none)=_;rw[if_pos q];exact hi
       ·cases hi
     ·obtain⟨x,M,_,e1,_,_,_⟩:=ry m o hm;obtain⟨x2,M2,_,e2,_,_,_⟩:=ry m2 p cW;rw[nG m x M e1,nG m2 x2 M2 e2] at e;subst e;rcases kind m o hm with y|⟨k1,v1,rfl⟩
      ·exact q3.one m m2 o p x M M2 (gb _ _ hm) (gb _ _ cW) (hL _ _ hm) (hL _ _ cW) (.inl y) e1 e2
      ·rcases kind m2 p cW with y|⟨k2,v2,rfl⟩
       ·exact q3.one m m2 _ p x M M2 (gb _ _ hm) (gb _ _ cW) (hL _ _ hm) (hL _ _ cW) (.inr y) e1 e2
       ·refine Classical.byContradiction fun cz=>?_;obtain⟨b1,N1,f1,_,f3,_⟩:=t1 m k1 v1 (gb _ _ hm)<|hL _ _ hm;obtain⟨b2,N2,f4,_,f6,_⟩:=t1 m2 k2 v2 (gb _ _ cW)<|hL _ _ cW;rw[e1] at f1;cases f1;rw[e2] at f4;cases f4;exact t2 m m2 x k1 v1 k2 v2 (gb _ _ hm) (gb _ _ cW) (hL _ _ hm) (hL _ _ cW) cz f3 f6
     ·obtain⟨b1,N1,f1,f2,_,_⟩:=t1 m k1 v1 (gb _ _ hm)<|hL _ _ hm;rw[nG m b1 N1 f1];have f2:B.inv k1 v1 σ w' b1<|Hq m:=f2;rw[hT] at f2;exact f2.mono (fun i y hi e=>by rw[Fo i hi];exact e) fun _ _=>rfl
     ·obtain⟨b1,N1,f1,_,f3,_⟩:=t1 m k1 v1 (gb _ _ hm)<|hL _ _ hm;rw[nG m b1 N1 f1];exact f3
     ·obtain⟨b1,N1,_,_,_,f4⟩:=t1 m k1 v1 (gb _ _ hm)<|hL _ _ hm;obtain⟨x2,M2,_,e2,_,_,_⟩:=ry m2 o cW;rw[nG m2 x2 M2 e2] at y;obtain⟨_,_,c3,_⟩:=f4 x2 y;rcases kind m2 o cW with z|⟨k2,v2,rfl⟩
      ·exact c3 m2 o M2 (gb _ _ cW) (hL _ _ cW) z e2
      ·cases ho
    ·obtain⟨c1,c2,c3⟩:=Fm x hx;exact⟨⟨c1,Nat.le_trans r.tk.1.1 c2⟩,r.size x c2,sU x<|Az x c2,fun j sh=>by rw[Fo _<|gg _ _ _];exact c3 j sh⟩
   ·rw[if_neg q] at ho;rw[zd m q];obtain⟨Zr,N1,f1,f2,f3,f4⟩:=h1 m k1 v1 hm ho;refine⟨Zr,N1,(gM _ _ q).trans<|(cY m hm).trans f1,B.mono f2 (fun i y _ e=>hl _ _<|b1.le _ _ e) fun x hx=>mX x (f4 x hx).1.1,f3,fun x hx=>?_⟩;obtain⟨⟨c1,cl⟩,c2,c3,c4⟩:=f4 x hx;refine⟨⟨Nat.lt_of_lt_of_le c1 q4.size,cl⟩,c2,sU x c3,fun j sh=>Classical.byContradiction fun z=>?_⟩;rw[Fo _<|gg _ _ _] at z;rcases(q3.fz j x sh z).1 with y|y
    ·exact y<|c4 j sh
    ·have y:w.heap.size<=x:=y;omega
  ·rw[g m hm] at ho;rw[g m2 cW] at hp;have cl:∀m k1 v1,m<top->h.get m=some (.tok k1 v1)->∀x,Hn x->¬cV m x:=fun m k1 v1 hm ho x hx y=>by obtain⟨_,c2,_⟩:=Fm x hx;obtain⟨b1,N1,_,_,_,f4⟩:=h1 m k1 v1 hm ho;have:=(f4 x y).1.1;omega
   by_cases q:m=a
   ·have q2:m2≠a:=fun e=>cz<|q.trans e.symm;rw[if_neg q2] at hp;rw[q,Dg] at y1;rw[zd m2 q2] at y2;exact cl m2 k2 v2 cW hp x y1 y2
   ·rw[if_neg q] at ho;rw[zd m q] at y1;by_cases q2:m2=a
    ·rw[q2,Dg] at y2;exact cl m k1 v1 hm ho x y2 y1
    ·rw[if_neg q2] at hp;rw[zd m2 q2] at y2;exact h2 m m2 x k1 v1 k2 v2 hm cW ho hp cz y1 y2
end Go.Rn
namespace Go.Rn
open Go.RowKit
variable {U:Nat} {x:AV}
noncomputable section
def CD(U:Nat)(ns:List Nat)(h0:Tr ae)(k:Nat)(val:List AV->Option (Option AV×(AV->AV))):aO->List AV->M AV:=fun _ args=>
 aF (args.all AV.hi) <| (fe U h0 ns).bind fun _=>aC (val args) fun p=>match p.1 with
  |none=>aF (p.2<|.ptr none).hi <| M.pure<|p.2<|.ptr none
  |some v=>(gC<|.tok k v).bind fun n=>M.pure<|p.2<|.ptr<|some (n,0)
end
theorem SH.CD(U:Nat)(ns:List Nat)(h0:Tr ae)(k:Nat)(val:List AV->Option (Option AV×(AV->AV)))(SI:aO)(args:List AV):SH<|CD U ns h0 k val SI args:=by
 refine SH.aF fun _=>SH.bind (SH.fe U h0 ns) fun _=>SH.aC fun p _=>?_;split
 ·exact SH.aF fun _=>SH.pure _
 ·exact SH.bind (SH.gC _) fun _=>SH.pure _
def v9(U:Nat)(res:AV->AV):Prop:=∀(σ IJ:aw) (n:Nat) (y:Value),iM σ IJ->(∀b N,σ U=some (b,N)->∃N',IJ n=some (b,N'))->VR σ (res<|.ptr<|some (U,0)) y->VR IJ (res<|.ptr<|some (n,0)) y
theorem adL{X:TX}{P:Program}{B:aJ}{f k:Nat}{ns:List Nat}{h0:Tr ae}{val:List AV->Option (Option AV×(AV->AV))}{fn:Func}{body:Code}{ρ:aw}{w:World}{s s1:AS}(hX:zb X U)(hT:B.inv=nW X U)(hP:bB P)(ch:P.funcs[f]? =some fn)(cw:fn.body=some body)(dD:(fn.name == "runtime.NumGoroutine")=false)(fD:fH<=U)(dI:U<top)(dE:∀n o,n<top->h0.get n=some o->n∈ns)(eh:∀n∈ns,n<U)(eK:∀args p,val args=some p->max fn.ntmps args.length<=top/\(p.1=none->∀B':aJ,B'.F=B.F->B'.inv=B.inv->
 av P B' U (Fin P fn.results.toList fun y _=>y=p.2 (.ptr none)) ⟨f,dZ args,max fn.ntmps args.length,[.code body],[],none⟩ ⟨h0,U,0,[],[]⟩)/\
 ∀v,p.1=some v->v9 U p.2/\∀B':aJ,B'.F=B.F->B'.inv=B.inv->av P B' U (mf X P fn.results.toList k (p.2<|.ptr<|some (U,0)) v) ⟨f,dZ args,max fn.ntmps args.length,[.code body],[],none⟩ ⟨h0,U,0,[],[]⟩){SI:aO}{args:List AV}{vs:Array Value}(r:Rel B ρ s.h w)(hg:gk ρ)(hf:dJ s.nx s1.nx ρ)(h:CD U ns h0 k val SI args s= .ok x s1)(hv:az ρ args vs.toList):jo P ((callFunc f vs).run P w)<|kg B ρ s s1 w x:=by
 have H7:=Nat.le_of_lt dI;unfold CD at h;obtain⟨ga,h1⟩:=cX h;obtain⟨u,s2,h2,h3⟩:=M.aR h1;obtain⟨p,h4,h5⟩:=bu h3;obtain⟨a1,a2,a3⟩:=tB h2;obtain⟨q1,q2,q3⟩:=eK _ _ h4;have mY:=ER H7 r dE eh (fun n hn=>by obtain⟨_,o,p,h⟩:=a3 n hn;exact⟨o,p,h⟩);have fi:bE (⟨h0,U,0,[],[]⟩:AS):=⟨Nat.zero_le _,H7⟩;have A3:gk<|gm U ρ:=fun g hZ=>by obtain⟨N,e⟩:=hg g hZ;exact⟨N,by unfold gm;rw[if_pos<|Nat.lt_of_lt_of_le hZ fD];exact e⟩
 have l7:∀k,(⟨h0,U,0,[],[]⟩:AS).nx<=k->k<top->gm U ρ k=none:=fun k k1 k2=>by have k1:U<=k:=k1;unfold gm gq;rw[if_neg ak,if_neg ak]
 have Zs:=AV.zW (ρ:=ρ) (σ:=gm U ρ) (fun k y hk e=>by rw[tO H7 hk];exact e) ga hv;rw[tC ch cw dD];show Calls P f vs w _;obtain⟨st,res⟩:=p;cases st with
 |none=>have e0:(none:Option AV)=none:=rfl;obtain⟨h6,h7⟩:=cX (show aF (res<|.ptr none).hi (M.pure<|res<|.ptr none) s2= .ok x s1 from h5);obtain⟨rfl,rfl⟩:=bH h7;refine(av.calls (B:=rZ B ρ w) (s:=⟨h0,U,0,[],[]⟩) (args:=args) (vs:=vs) hP ch cw q1 (q2 e0 _ rfl rfl) fi mY A3 l7 Zs).mono fun e w'=>?_;rintro ⟨y,x',s4,rfl,rfl,_,_,σ,e1,e2,e3,e4⟩;obtain⟨b1,b2,b3,b4⟩:=Ky (a:=s.nx) H7 r e3 e4 e1.le;exact⟨y,rfl,cL ρ σ,by rw[a2];exact b1,AV.oY b2 h6 e2,by rw[a1];exact b3,b4⟩
 |some v=>
  have e0:(some v:Option AV)=some v:=rfl;obtain⟨n,s3,h6,h7⟩:=M.aR (show((gC<|.tok k v).bind fun n=>M.pure<|res<|.ptr<|some (n,0)) s2= .ok x s1 from h5);obtain⟨rfl,rfl⟩:=bH h7;obtain⟨FO,rfl,rfl⟩:=vw h6;obtain⟨kz,aj6⟩:=q3 v e0;refine(av.calls (B:=rZ B ρ w) (s:=⟨h0,U,0,[],[]⟩) (args:=args) (vs:=vs) hP ch cw q1 (aj6 _ rfl rfl) fi mY A3 l7 Zs).mono fun e w'=>?_;rintro ⟨y,x',s4,rfl,⟨rfl,L',ru,MB⟩,_,_,σ,e1,e2,e3,e4⟩;obtain⟨oR,hR⟩:=hX.root _ _ _ ru;obtain⟨b,N0,o',r1,_,_,_⟩:=e3.is U oR dI<|MB _ _ hR;have RY:ρ s.nx=none:=hf s.nx (Nat.le_refl _) (by show s.nx<s2.nx+1;omega) ak;obtain⟨b1,b2,b3,b4⟩:=agS (a:=s.nx) hX hT H7 ak RY r e3 e4 e1.le r1 ru MB;refine⟨y,rfl,_,?_,kz σ _ s2.nx y b2 (fun b' N' e=>?_) e2,?_,b4⟩
  ·show Ext s.nx (s2.nx+1) ρ _;rw[a2];exact b1
  ·rw[r1] at e;cases e;rw[a2];exact⟨0,iQ _ _ _⟩
  ·show Rel B _ (s2.h.put s2.nx<|some<|.tok k v) w';rw[a1,a2];exact b3
theorem v9.ptr:v9 U fun p=>p:=fun σ IJ n y _ h2 h=>by simp only[VR] at h ⊢;obtain⟨b,N,e1,e2⟩:=h;obtain⟨N',e3⟩:=h2 b N e1;exact⟨b,N',e3,e2⟩
theorem v9.RZ(hx:x.cq=true):v9 U fun p=>.tuple [p,x]:=fun σ IJ n y h1 h2 h=>by simp only[VR,az] at h ⊢;obtain⟨a,e1,v,l,e2,⟨b,N,e3,e4⟩,v2,l2,e5,e6,e7⟩:=h;obtain⟨N',e8⟩:=h2 b N e3;exact⟨a,e1,v,l,e2,⟨b,N',e8,e4⟩,v2,l2,e5,AV.tY h1 hx e6,e7⟩
end Go.Rn
namespace Go.Rn
open Go.RowKit
variable {β α:Type} {U:Nat} {ns:List Nat} {h0:Tr ae}
theorem Po{s:AS}{n:Nat}{o:Option ae}{p:ae}(h1:Nat.blt n s.nx=true)(h2:s.h.get n=some p)(h3:p.lh=true)(ht:Nat.blt n top=true):lz n o s= .ok () (fB n o s):=by obtain⟨hh,nx,mark,rd,wr⟩:=s;have e1:(Nat.blt n nx&&Nat.blt n top)=true:=and_true.2 ⟨h1,ht⟩;have e2:hh.get n=some p:=h2;show @Bool.rec (fun _=>R Unit) .bad (@Option.rec ae (fun _=>R Unit) .bad (fun p=> @Bool.rec (fun _=>R Unit) (@Bool.rec (fun _=>R Unit) (.ok () ⟨hh.put n o,nx,mark,rd,wr⟩) (.ok () ⟨hh.put n o,nx,mark,n::rd,n::wr⟩)<|Nat.blt n mark) .bad<|!p.lh)<|hh.get n) (Nat.blt n nx&&Nat.blt n top)=_;rw[e1,e2];show @Bool.rec (fun _=>R Unit) (@Bool.rec (fun _=>R Unit) (.ok () ⟨hh.put n o,nx,mark,rd,wr⟩) (.ok () ⟨hh.put n o,nx,mark,n::rd,n::wr⟩)<|Nat.blt n mark) .bad (!p.lh)=_;rw[h3];show @Bool.rec (fun _=>R Unit) (.ok () ⟨hh.put n o,nx,mark,rd,wr⟩) (.ok () ⟨hh.put n o,nx,mark,n::rd,n::wr⟩) (Nat.blt n mark)= .ok () (@Bool.rec (fun _=>AS) ⟨hh.put n o,nx,mark,rd,wr⟩ ⟨hh.put n o,nx,mark,n::rd,n::wr⟩<|Nat.blt n mark);cases Nat.blt n mark<;>rfl
noncomputable section
inductive KE where
 |val (v:List AV->Option AV)
 |tok (k:Nat) (v:AV->List AV->Option (AV×AV))
 |new (k:Nat) (v:List AV->Option (Option AV×(AV->AV)))
 |raw (m:Nat->List Nat->Tr ae->aO->List AV->M AV)
abbrev bU:=List<|FuncId×KE
def KE.m(U:Nat)(ns:List Nat)(h0:Tr ae):KE->aO->List AV->M AV
 | .val v=>pV U ns h0 v
 | .tok k v=>yK U ns h0 k v
 | .new k v=>CD U ns h0 k v
 | .raw m=>m U ns h0
def dv(U:Nat)(ns:List Nat)(h0:Tr ae):bU->Sp
 |[]=>fun _=>none
 |p::l=>fun f=>bif Nat.beq f p.1 then some (p.2.m U ns h0) else dv U ns h0 l f
def gQ(val:AV->List AV->Option (AV×AV))(v:AV)(rest:List AV):Option<|AV×AV:=match rest.all AV.hi with
 |true=>(val v rest).bind fun p=>match p.1.hi with
  |true=>some p
  |false=>none
 |false=>none
def lN(val:List AV->Option (Option AV×(AV->AV)))(args:List AV):Option<|Option AV×(AV->AV):=match args.all AV.hi with
 |true=>(val args).bind fun p=>match p.1 with
  |none=>match (p.2<|.ptr none).hi with
   |true=>some p
   |false=>none
  |some _=>some p
 |false=>none
def ES:bU->FuncId->Option KE
 |[]=>fun _=>none
 |p::l=>fun f=>bif Nat.beq f p.1 then some p.2 else ES l f
def KE.v1:KE->Option (List AV->Option AV)
 | .val v=>some<|bp v
 |_=>none
def KE.v2:KE->Option (Nat×(AV->List AV->Option (AV×AV)))
 | .tok k v=>some (k,gQ v)
 |_=>none
def KE.v3:KE->Option (Nat×(List AV->Option (Option AV×(AV->AV))))
 | .new k v=>some (k,lN v)
 |_=>none
def L5(o:Option α)(f:α->Option β):Option β:=match o with
 |some a=>f a
 |none=>none
def wx(P:Program)(U:Nat)(ns:List Nat)(h0:Tr ae)(L:bU)(lo:Nat)(fg:Bool):Env:=⟨P,dv U ns h0 L,FU,fun g=>L5 (ES L g) KE.v1,fun _=>false,qg U h0 ns,dK U h0 ns,lo,fg,fun g=>L5 (ES L g) KE.v2,fun g=>L5 (ES L g) KE.v3,U⟩
end
theorem JP:∀{L:bU} {g:FuncId} {e:KE},ES L g=some e->dv U ns h0 L g=some (e.m U ns h0)
 |[],g,e,h=>by cases h
 |p::l,g,e,h=>by
  unfold ES at h;unfold dv;cases q:Nat.beq g p.1 with
  |true=>rw[q] at h;injection h with h;rw[h];rfl
  |false=>rw[q] at h;exact JP h
theorem ON{o:Option α}{f:α->Option β}{b:β}(h:L5 o f=some b):∃a,o=some a/\f a=some b:=by
 cases o with
 |none=>cases h
 |some a=>exact⟨a,rfl,h⟩
theorem eH{P:Program}{L:bU}{lo:Nat}{fg:Bool}:(wx P U ns h0 L lo fg).Ok:=by
 refine⟨fun g val args v s n h1 h2 h3=>?_,fun g q m v rest y v' s n h1 h2 h3 h4 h5 h6 h7=>?_,fun g q args v res s n h1 h2 h3 h4=>?_,fun g h=>(by cases h)⟩
 ·obtain⟨e,k1,k2⟩:=ON h1;have k3:=JP (U:=U) (ns:=ns) (h0:=h0) k1;cases e with
  |val v0=>
   injection k2 with k2;subst k2
   show j0 P (dv U ns h0 L) g (bg P (dv U ns h0 L) FU n) args s=_;rw[tX k3];exact acB (SI:=bg P (dv U ns h0 L) FU n) h2 h3
  |tok k v0=>cases k2
  |new k v0=>cases k2
  |raw m0=>cases k2
 ·obtain⟨e,k1,k2⟩:=ON h1;have k3:=JP (U:=U) (ns:=ns) (h0:=h0) k1;cases e with
  |val v0=>cases k2
  |new k v0=>cases k2
  |raw m0=>cases k2
  |tok k v0=>
   injection k2 with k2;subst k2
   show j0 P (dv U ns h0 L) g (bg P (dv U ns h0 L) FU n) (.ptr (some (m,0))::rest) s=_;rw[tX k3];have h7:gQ v0 v rest=some (y,v'):=h7;unfold gQ at h7;cases e1:rest.all AV.hi with
   |false=>rw[e1] at h7;cases h7
   |true=>
    rw[e1] at h7;cases e2:v0 v rest with
    |none=>rw[e2] at h7;cases h7
    |some p=>
     rw[e2] at h7;have h7:(match p.1.hi with|true=>some p|false=>none)=some (y,v'):=h7;cases e3:p.1.hi with
     |false=>rw[e3] at h7;cases h7
     |true=>
      rw[e3] at h7;injection h7 with h7
      subst h7;show(aF (rest.all AV.hi&&Nat.ble U m) <| (fe U h0 ns).bind fun _=>(bw m).bind fun o=>match o with
       | .tok k' v=>aF (Nat.beq k k') <| aC (v0 v rest) fun p=>aF p.1.hi <| (lz m<|some<|.tok k p.2).bind fun _=>M.pure p.1
       |_=>fail) s=_
      have h3:Nat.ble U m=true:=h3;have h4:Nat.blt m (dK U h0 ns s).nx=true:=h4;have h6:(dK U h0 ns s).h.get m=some (.tok k v):=h6;rw[e1,h3,(show(true&&true)=true from rfl),dz,M.bN<|vI h2,M.bN<|lW h4 h6];show(aF (Nat.beq k k) <| aC (v0 v rest) fun p=>aF p.1.hi <| (lz m<|some<|.tok k p.2).bind fun _=>M.pure p.1) (bc m<|dK U h0 ns s)=_;rw[eA.2 rfl,dz,e2,bW,e3,dz,M.bN<|Po (p:=.tok k v) (by rw[(fN m _).2.1];exact h4) (by rw[(fN m _).1];exact h6) rfl h5];rfl
 ·obtain⟨e,k1,k2⟩:=ON h1;have k3:=JP (U:=U) (ns:=ns) (h0:=h0) k1;cases e with
  |val v0=>cases k2
  |tok k v0=>cases k2
  |raw m0=>cases k2
  |new k v0=>
   injection k2 with k2;subst k2
   show j0 P (dv U ns h0 L) g (bg P (dv U ns h0 L) FU n) args s=_;rw[tX k3];have h4:lN v0 args=some (v,res):=h4;unfold lN at h4;cases e1:args.all AV.hi with
   |false=>rw[e1] at h4;cases h4
   |true=>
    rw[e1] at h4;cases e2:v0 args with
    |none=>rw[e2] at h4;cases h4
    |some p=>
     obtain⟨st,r⟩:=p;rw[e2] at h4;show(aF (args.all AV.hi) <| (fe U h0 ns).bind fun _=>aC (v0 args) fun p=>match p.1 with
      |none=>aF (p.2<|.ptr none).hi <| M.pure (p.2<|.ptr none)
      |some v=>(gC<|.tok k v).bind fun n=>M.pure<|p.2<|.ptr<|some (n,0)) s=_
     rw[e1,dz,M.bN<|vI h2,e2,bW];cases st with
     |none=>
      have h4:(match (r<|.ptr none).hi with|true=>some ((none:Option AV),r)|false=>none)=some (v,res):=h4;cases e3:(r<|.ptr none).hi with
      |false=>rw[e3] at h4;cases h4
      |true=>
       rw[e3] at h4;injection h4 with h4
       injection h4 with h5 h6
       subst h5;subst h6;show aF true (M.pure<|r<|.ptr none) _=_;rw[dz];rfl
     |some v1=>
      have h4:some (some v1,r)=some (v,res):=h4;injection h4 with h4
      injection h4 with h5 h6
      subst h5;subst h6;show((gC<|.tok k v1).bind fun n=>M.pure<|r<|.ptr<|some (n,0)) _=_;have h3:Nat.blt (dK U h0 ns s).nx top=true:=h3;rw[M.bN<|VG<|(blt_eq _ _).mp h3];rfl
end Go.Rn
namespace Go.Rn
open Go.RowKit
variable {B:aJ}
theorem Ti{P:Program}{f U:Nat}{ns:List Nat}{h0:Tr ae}{val:List AV->Option AV}{fn:Func}{body:Code}{ρ:aw}{w:World}{s s1:AS}(hP:bB P)(ch:P.funcs[f]? =some fn)(cw:fn.body=some body)(dD:(fn.name == "runtime.NumGoroutine")=false)(fD:fH<=U)(dI:U<=top)(dE:∀n o,n<top->h0.get n=some o->n∈ns)(eh:∀n∈ns,n<U)(eK:∀args v,val args=some v->max fn.ntmps args.length<=top/\∀B':aJ,B'.F=B.F->B'.inv=B.inv->av P B' U (Fin P fn.results.toList fun y _=>y=v) ⟨f,dZ args,max fn.ntmps args.length,[.code body],[],none⟩ ⟨h0,U,0,[],[]⟩){SI:aO}{args:List AV}{x:AV}{vs:Array Value}(r:Rel B ρ s.h w)(hg:gk ρ)(h:pV U ns h0 val SI args s= .ok x s1)(hv:az ρ args vs.toList):jo P ((callFunc f vs).run P w)<|kg B ρ s s1 w x:=by
 unfold pV at h;obtain⟨ga,h1⟩:=cX h;obtain⟨u,s2,h2,h3⟩:=M.aR h1;obtain⟨v,h4,h5⟩:=bu h3;obtain⟨h6,h7⟩:=cX h5;obtain⟨rfl,rfl⟩:=bH h7;obtain⟨a1,a2,a3⟩:=tB h2;obtain⟨q1,q2⟩:=eK _ _ h4;have mY:=ER dI r dE eh (fun n hn=>by obtain⟨_,o,p,h⟩:=a3 n hn;exact⟨o,p,h⟩);have fi:bE (⟨h0,U,0,[],[]⟩:AS):=⟨Nat.zero_le _,dI⟩;have A3:gk<|gm U ρ:=fun g hZ=>by obtain⟨N,e⟩:=hg g hZ;exact⟨N,by unfold gm;rw[if_pos<|Nat.lt_of_lt_of_le hZ fD];exact e⟩
 have bI:=av.calls (B:=rZ B ρ w) (s:=⟨h0,U,0,[],[]⟩) (args:=args) (vs:=vs) hP ch cw q1 (q2 _ rfl rfl) fi mY A3 (fun k k1 k2=>by
  have k1:U<=k:=k1;unfold gm gq;rw[if_neg ak,if_neg ak])
  (AV.zW (fun k y hk e=>by rw[tO dI hk];exact e) ga hv)
 rw[tC ch cw dD];show Calls P f vs w _;refine bI.mono fun e w'=>?_;rintro ⟨y,x',s4,rfl,rfl,_,_,σ,e1,e2,e3,e4⟩;obtain⟨b1,b2,b3,b4⟩:=Ky (a:=s.nx) dI r e3 e4 e1.le;exact⟨y,rfl,cL ρ σ,by rw[a2];exact b1,AV.oY b2 h6 e2,by rw[a1];exact b3,b4⟩
def dX(X:TX)(U:Nat)(P:Program)(sp:Sp):Prop:=∀B:aJ,B.F=FU->B.inv=nW X U->LW P B sp
theorem dX.mK{X:TX}{U:Nat}{P:Program}{sp:Sp}{g:FuncId}{m:aO->List AV->M AV}(h:dX X U P sp)(hl:∀SI:aO,(∀t a,SH<|SI t a)->∀args,SH<|m SI args)(hs:∀B:aJ,B.F=FU->B.inv=nW X U->∀SI:aO,fR P B SI->(∀t a,SH<|SI t a)->∀(args:List AV) (x:AV) (s s1:AS) (ρ:aw) (w:World) (vs:Array Value),bE s->Rel B ρ s.h w->gk ρ->dJ s.nx s1.nx ρ->
 m SI args s= .ok x s1->az ρ args vs.toList->jo P ((callFunc g vs).run P w) (kg B ρ s s1 w x)):dX X U P<|pe sp g m:=by
 intro B hB hT;refine⟨fun f m' e SI nf args=>?_,fun f m' e SI hc nf args x s s1 ρ w vs fi r hg hf hm hv=>?_⟩
 ·rcases TC e with⟨_,rfl⟩|e
  ·exact hl SI nf args
  ·exact(h B hB hT).loc f m' e SI nf args
 ·rcases TC e with⟨rfl,rfl⟩|e
  ·exact hs B hB hT SI hc nf args x s s1 ρ w vs fi r hg hf hm hv
  ·exact(h B hB hT).FZ f m' e SI hc nf args x s s1 ρ w vs fi r hg hf hm hv
section
variable {X:TX} {P:Program} {U:Nat} {ns:List Nat} {h0:Tr ae} {kn:List<|Nat×Option ae} {L L':bU} {g k:Nat} {fn:Func} {body:Code}
theorem cO:dX X U P<|dv U ns h0 []:=fun _ _ _=>⟨fun f m h=>(by cases h),fun f m h=>(by cases h)⟩
def qh(X:TX)(P:Program)(U:Nat)(ns:List Nat)(h0:Tr ae)(L:bU)(B:aJ):Prop:=B.F=FU/\B.inv=nW X U/\fR P B (bg P (dv U ns h0 L) FU 6)/\∀t a,SH<|bg P (dv U ns h0 L) FU 6 t a
theorem rj(hP:bB P)(h':dX X U P<|dv U ns h0 L)(h1:B.F=FU)(h2:B.inv=nW X U):qh X P U ns h0 L B:=⟨h1,h2,Uc hP (h' B h1 h2) h1 6,DL P (h' B h1 h2) FU 6⟩
theorem ae0(hP:bB P)(fD:fH<=U)(dI:U<=top)(dE:∀n o,n<top->h0.get n=some o->n∈ns)(eh:∀n∈ns,n<U){val:List AV->Option AV}(h:dX X U P<|dv U ns h0 L)(h':dX X U P<|dv U ns h0 L')(ch:P.funcs[g]? =some fn)(cw:fn.body=some body)(dD:(fn.name == "runtime.NumGoroutine")=false)(eK:∀args v,val args=some v->max fn.ntmps args.length<=top/\∀B:aJ,qh X P U ns h0 L' B->
 av P B U (Fin P fn.results.toList fun y _=>y=v) ⟨g,dZ args,max fn.ntmps args.length,[.code body],[],none⟩ ⟨h0,U,0,[],[]⟩):dX X U P<|dv U ns h0<|(g,.val val)::L:=by
 refine(show dX X U P (pe (dv U ns h0 L) g<|pV U ns h0 val) from h.mK (fun SI _ args=>SH.pV _ _ _ _ SI args) fun B hB hT SI hc hl args x s s1 ρ w vs fi r hg hf hm hv=>?_);refine Ti hP ch cw dD fD dI dE eh (fun args v e=>?_) r hg hm hv;obtain⟨q1,q2⟩:=eK args v e;exact⟨q1,fun B' kP kR=>q2 B'<|rj hP h' (kP.trans hB)<|kR.trans hT⟩
theorem Ea(hX:zb X U)(hP:bB P)(fD:fH<=U)(dI:U<=top)(dE:∀n o,n<top->h0.get n=some o->n∈ns)(eh:∀n∈ns,n<U)(iA:∀n o,(n,some o)∈kn->h0.get n=some o)(iB:∀p∈kn,p.1<top){val:AV->List AV->Option (AV×AV)}(h:dX X U P<|dv U ns h0 L)(h':dX X U P<|dv U ns h0 L')(ch:P.funcs[g]? =some fn)(cw:fn.body=some body)(dD:(fn.name == "runtime.NumGoroutine")=false)(eK:∀v rest y v',val v rest=some (y,v')->max fn.ntmps (rest.length+1)<=top/\∀L,X k v L->∃nx,U<nx/\nx<=top/\(∀p∈L,p.1<nx)/\∀B:aJ,qh X P U ns h0 L' B->
 av P B (U+1) (mf X P fn.results.toList k y v') ⟨g,dZ<|.ptr (some (U,0))::rest,max fn.ntmps<|rest.length+1,[.code body],[],none⟩ ⟨fL<|kn++bO L,nx,0,[],[]⟩):dX X U P<|dv U ns h0<|(g,.tok k val)::L:=by
 refine(show dX X U P (pe (dv U ns h0 L) g<|yK U ns h0 k val) from h.mK (fun SI _ args=>SH.yK _ _ _ _ _ SI args) fun B hB hT SI hc hl args x s s1 ρ w vs fi r hg hf hm hv=>?_);refine U5 hX hT hP ch cw dD fD dI dE eh iA iB (fun v rest y v' e=>?_) r hg hm hv;obtain⟨q1,q2⟩:=eK v rest y v' e;refine⟨q1,fun L1 hL=>?_⟩;obtain⟨nx,n1,n2,n3,q3⟩:=q2 L1 hL;exact⟨nx,n1,n2,n3,fun B' kP kR=>q3 B'<|rj hP h' (kP.trans hB)<|kR.trans hT⟩
theorem J7(hX:zb X U)(hP:bB P)(fD:fH<=U)(dI:U<top)(dE:∀n o,n<top->h0.get n=some o->n∈ns)(eh:∀n∈ns,n<U){val:List AV->Option (Option AV×(AV->AV))}(h:dX X U P<|dv U ns h0 L)(h':dX X U P<|dv U ns h0 L')(ch:P.funcs[g]? =some fn)(cw:fn.body=some body)(dD:(fn.name == "runtime.NumGoroutine")=false)(eK:∀args p,val args=some p->max fn.ntmps args.length<=top/\(p.1=none->∀B:aJ,qh X P U ns h0 L' B->
 av P B U (Fin P fn.results.toList fun y _=>y=p.2 (.ptr none)) ⟨g,dZ args,max fn.ntmps args.length,[.code body],[],none⟩ ⟨h0,U,0,[],[]⟩)/\
 ∀v,p.1=some v->v9 U p.2/\∀B:aJ,qh X P U ns h0 L' B->av P B U (mf X P fn.results.toList k (p.2<|.ptr<|some (U,0)) v) ⟨g,dZ args,max fn.ntmps args.length,[.code body],[],none⟩ ⟨h0,U,0,[],[]⟩):
 dX X U P (dv U ns h0<|(g,.new k val)::L):=by
 refine(show dX X U P (pe (dv U ns h0 L) g<|CD U ns h0 k val) from h.mK (fun SI _ args=>SH.CD _ _ _ _ _ SI args) fun B hB hT SI hc hl args x s s1 ρ w vs fi r hg hf hm hv=>?_);refine adL hX hT hP ch cw dD fD dI dE eh (fun args p e=>?_) r hg hf hm hv;obtain⟨q1,q2,q3⟩:=eK args p e;refine⟨q1,fun e0 B' kP kR=>q2 e0 B'<|rj hP h' (kP.trans hB)<|kR.trans hT,fun v e0=>?_⟩;obtain⟨q4,q5⟩:=q3 v e0;exact⟨q4,fun B' kP kR=>q5 B'<|rj hP h' (kP.trans hB)<|kR.trans hT⟩
end
end Go.Rn
namespace Go.Rn
open Go.RowKit
variable {α:Type} {enc:α->List AV} {r:Nat->Nat} {fz:lL} {l:List α} {K n o:Nat} {a v:AV} {cap:cM} {args:List AV}
def di(enc:α->List AV)(K:Nat)(a:AV)(l:List α):Prop:=∃n o,a= .ab n o l.length/\top<=n/\∀(i:Nat) c,l[i]? =some c->cx FU n (o+i*K) K=some (enc c)
theorem di.cq(h:di enc K a l):a.cq=true:=by obtain⟨n,o,rfl,h1,_⟩:=h;exact aL.2 h1
theorem di.hi(h:di enc K a l):a.hi=true:=by have:=h.cq;obtain⟨n,o,rfl,h1,_⟩:=h;exact this
theorem di.aD{α:Type}{enc:α->List AV}{K:Nat}(he:me K enc)(l:List α):di enc K (aD enc l) l:=⟨_,0,rfl,cU _,fun i c hc=>by have:=ya he hc 0 K ak;rw[Nat.zero_add];rw[Nat.add_zero,List.drop_zero, ←he.len c,List.take_length] at this;rw[he.len c] at this;exact this⟩
theorem di.inj{m:List α}(Fj:∀x y,enc x=enc y->x=y)(h:di enc K a l)(k:di enc K a m):l=m:=by
 obtain⟨n,o,rfl,_,h2⟩:=h;obtain⟨n',o',e,_,k2⟩:=k;injection e with e1 e2 e3
 subst e1;subst e2;refine List.ext_getElem? fun i=>?_;by_cases q:i<l.length
 ·have a1:l[i]? =some l[i]:=List.getElem?_eq_getElem q;have a2:m[i]? =some (m[i]'ak):=List.getElem?_eq_getElem ak;have b1:=h2 i _ a1;have b2:=k2 i _ a2;rw[b1] at b2;injection b2 with b2
  rw[a1,a2,Fj _ _ b2]
 ·rw[List.getElem?_eq_none ak,List.getElem?_eq_none ak]
theorem di.len{α:Type}{enc:α->List AV}{K n o len:Nat}{l:List α}(h:di enc K (.ab n o len) l):l.length=len/\top<=n/\∀(i:Nat) c,l[i]? =some c->cx FU n (o+i*K) K=some (enc c):=by
 obtain⟨n',o',e,ht,h3⟩:=h;injection e with e1 e2 e3
 subst e1;subst e2;exact⟨e3.symm,ht,h3⟩
theorem J8{len:Nat}(hl:∀c,(enc c).length=K)(h:di enc K (.ab n o len) l):cx FU n o (len*K)=some (l.map enc).flatten\/l=[]:=by
 obtain⟨h1,_,h3⟩:=h.len;by_cases hn:l=[]
 ·exact .inr hn
 refine .inl ?_;have Fk:0<l.length:=by cases l with|nil=>exact absurd rfl hn|cons _ _=>exact Nat.succ_pos _
 obtain⟨row,eN⟩:∃row,FU n=some row:=by
  have:=h3 0 l[0]<|List.getElem?_eq_getElem Fk;unfold cx at this;cases e:FU n with
  |none=>rw[e] at this;cases this
  |some r=>exact⟨r,rfl⟩
 have ay:∀(i:Nat) c,l[i]? =some c->o+i*K+K<=row.length/\(row.drop<|o+i*K).take K=enc c:=by
  intro i c hc;have:=h3 i c hc;unfold cx at this;rw[eN] at this;simp only at this;cases q:Nat.ble (o+i*K+K) row.length with
  |false=>rw[q] at this;cases this
  |true=>rw[q] at this;injection this with this;exact⟨aL.1 q,this⟩
 have anQ:=(ay (l.length - 1) l[l.length - 1]<|List.getElem?_eq_getElem ak).1;have hmul:(l.length - 1)*K+K=l.length*K:=by rw[←Nat.succ_mul];congr 1;omega
 have hle:o+len*K<=row.length:=by rw[←h1];omega
 unfold cx;rw[eN];simp only[(aL.2 hle:Nat.ble (o+len*K) row.length=true)];congr 1;have y8:(l.map enc).flatten.length=l.length*K:=by
  have:=tD (K:=K) (l:=l.map enc) fun c hc=>by obtain⟨a,_,rfl⟩:=List.mem_map.1 hc;exact hl a
  rw[this,List.length_map]
 refine List.ext_getElem? fun i=>?_;by_cases q:i<l.length*K
 ·rcases Nat.eq_zero_or_pos K with z|hK
  ·rw[z] at q;omega
  have hdiv:i / K<l.length:=Nat.div_lt_of_lt_mul (by rw[Nat.mul_comm];exact q);have HX:i % K<K:=Nat.mod_lt _ hK;have F0:i / K*K+i % K=i:=by rw[Nat.mul_comm];exact Nat.div_add_mod i K
  obtain⟨_,h4⟩:=ay (i / K) l[i / K]<|List.getElem?_eq_getElem hdiv;have h5:=NG (l:=l.map enc) (K:=K) (i:=i / K) (c:=enc l[i / K]) (fun c hc=>by obtain⟨a,_,rfl⟩:=List.mem_map.1 hc;exact hl a) (by rw[List.getElem?_map,List.getElem?_eq_getElem hdiv];rfl);have h6:(row.drop<|o+i / K*K)[i % K]? =(enc l[i / K])[i % K]? :=by rw[←h4,List.getElem?_take_of_lt HX]
  have h7:((l.map enc).flatten.drop<|i / K*K)[i % K]? =(enc l[i / K])[i % K]? :=by rw[←h5,List.getElem?_take_of_lt HX]
  rw[List.getElem?_drop] at h6 h7;rw[List.getElem?_take_of_lt (by rw[←h1];exact q),List.getElem?_drop,show o+i=o+i / K*K+i % K by omega,h6, ←h7,F0]
 ·rw[List.getElem?_eq_none (by rw[List.length_take, ←h1];omega),List.getElem?_eq_none ak]
theorem GY(hm:(n,nm (l.map enc).flatten,(l.map enc).flatten)∈fz)(hr:∀k,top<=k->r k=k)(hc:(match cap with| .known c=>Nat.ble l.length c| .ar _ _=>true| .lost=>false)=true):lH fz r (.slice (some (n,0)) l.length cap)<|aD enc l:=by
 intro ρ fA v zc hv;have:∃b N c,ρ n=some (b,N)/\v= .slice (some ⟨b,0,none⟩) l.length c/\l.length<=c:=by
  cases cap with
  |known c=>simp only[VR] at hv;obtain⟨b,N,e,hv⟩:=hv;exact⟨b,N,c,e,hv,aL.1 hc⟩
  |ar lo e0=>simp only[VR] at hv;obtain⟨b,N,c,e,hv,_,h,_⟩:=hv;exact⟨b,N,c,e,hv,h⟩
  |lost=>cases hc
 obtain⟨b,N,c,e,rfl,hle⟩:=this;have hk:=zc.2.2 _ hm b N e;unfold aD;simp only[VR];exact .inr ⟨b,0,c,.inr ⟨cU _,fun z=>hk<|(congrArg fA<|hr _<|gg _ _ _).symm.trans z⟩,rfl,fun _=>⟨hle,(Ae _).1⟩⟩
theorem J9:lH fz r (.slice none 0<|.known 0)<|aD enc []:=by intro ρ fA v _ hv;simp only[VR] at hv;obtain⟨rfl,_,_⟩:=hv;unfold aD;simp only[VR];exact .inl ⟨cU _,rfl,none,0,rfl,(fun _=>rfl),(fun _=>rfl),fun e=>absurd e (Ae _).2⟩
theorem acD:lH fz r (.slice (some (n,o)) 0 cap)<|aD enc []:=by
 intro ρ fA v _ hv;have:∃a c,v= .slice (some a) 0 c:=by
  cases cap<;>simp only[VR] at hv
  ·obtain⟨_,_,_,rfl⟩:=hv;exact⟨_,_,rfl⟩
  ·obtain⟨_,_,_,_,rfl,_⟩:=hv;exact⟨_,_,rfl⟩
  ·obtain⟨_,_,_,_,_,_,rfl⟩:=hv;exact⟨_,_,rfl⟩
 obtain⟨a,c,rfl⟩:=this;unfold aD;simp only[VR];exact .inl ⟨cU _,rfl,some a,c,rfl,(fun e=>by cases e),(fun e=>absurd e (Ae _).1),fun _ e=>by cases e⟩
theorem agT{len:Nat}(ht:top<=n)(hr:∀k,top<=k->r k=k):lH fz r (.ab n o len)<|.ab n o len:=(bz.ab (hr n ht) hr).z
theorem ae1(hr:∀k,top<=k->r k=k):lH fz r (aD enc l)<|aD enc l:=agT (cU _) hr
theorem GZ(he:me K enc)(hl:l.length*K<=top)(n:Nat)(hn:n<top){o0:List<|Nat×Option ae}(hm:(n,some<|aI enc l)∈o0):
 n<top/\FU (nm (l.map enc).flatten)=some (l.map enc).flatten/\∃N t z,(n,some<|.cells N t z)∈o0/\∀i x,(l.map enc).flatten[i]? =some x->i<N/\cellAt t z i=some x/\x.cj=true/\x.cq=true:=by
 refine⟨hn,Cl<|he.all l,_,_,_,hm,fun i x hx=>?_⟩;have hi:=(List.getElem?_eq_some_iff.1 hx).1;have hc:=List.all_eq_true.1 (he.all l) x<|List.mem_of_getElem? hx;exact⟨hi,by rw[zA (by rw[he.length];exact hl) hi];exact hx,JD hc,D2 hc⟩
def mB(fz:lL)(r:Nat->Nat):List AV->List AV->Prop
 |[],[]=>True
 |x::l,y::m=>lH fz r x y/\mB fz r l m
 |_,_=>False
theorem mB.length:∀{l m:List AV},mB fz r l m->l.length=m.length
 |[],[],_=>rfl
 |_::_,_::_,h=>by simp[mB.length h.2]
 |[],_::_,h=>by cases h
 |_::_,[],h=>by cases h
theorem mB.au:∀{l m:List AV} {i:Nat} {x y:AV},mB fz r l m->l[i]? =some x->m[i]? =some y->lH fz r x y
 |x::l,y::m,0,a,b,h,h1,h2=>by simp at h1 h2;subst h1;subst h2;exact h.1
 |x::l,y::m,i+1,a,b,h,h1,h2=>mB.au h.2 (by simpa using h1) (by simpa using h2)
 |[],[],_,_,_,_,h1,_=>by simp at h1
 |_::_,[],_,_,_,h,_,_=>by cases h
 |[],_::_,_,_,_,h,_,_=>by cases h
theorem fI.cells{l m:List AV}(hl:l.length<=top)(h:mB fz r l m)(h1:m.all AV.cj=true):fI fz r (.cells l.length (Tr.fill l 0 .nil) [])<|.cells m.length (Tr.fill m 0 .nil) []:=by
 have hlen:=h.length;intro ρ fA N o zc k;obtain⟨c,e,rfl,k1,k2,k3⟩:=k;refine⟨c,e,rfl,k1,by omega,fun i hi=>?_⟩;obtain⟨x,v,a1,a2,a3,a4⟩:=k3 i ak;have hx:l[i]? =some x:=by unfold cellAt at a1;rw[Tr.xy _ _ _ _ ak,if_pos ak,Nat.sub_zero,List.getElem?_eq_getElem ak] at a1;rw[List.getElem?_eq_getElem ak];exact a1
 have hy:m[i]? =some m[i]:=List.getElem?_eq_getElem hi;refine⟨m[i],v,?_,?_,a3,h.au hx hy ρ fA v zc a4⟩
 ·unfold cellAt;rw[Tr.xy _ _ _ _ ak,if_pos ak,Nat.sub_zero,hy]
 ·exact List.all_eq_true.1 h1 _<|List.getElem_mem hi
open Classical in
noncomputable def ba(R:List AV->AV->Prop)(args:List AV):Option AV:=if h:∃v,R args v then some h.choose else none
theorem gf{R:List AV->AV->Prop}(h:ba R args=some v):R args v:=by
 unfold ba at h;split at h
 ·rename_i q;injection h with h;rw[←h];exact q.choose_spec
 ·cases h
theorem ff{R:List AV->AV->Prop}(hd:∀args v v',R args v->R args v'->v=v')(h:R args v):ba R args=some v:=by unfold ba;have q:∃v,R args v:=⟨v,h⟩;rw[dif_pos q,hd _ _ _ q.choose_spec h]
end Go.Rn
namespace Go.Rn
open Go.RowKit
variable {ns:List Nat} {v y v':AV} {rest args:List AV} {n o:Nat} {S:Type} {res:AV->AV} {f:S->List AV->Option (AV×S)} {enc:S->AV}
def AA(ns:List Nat)(σ:aw):aw:=fun m=>if top<=m\/m∈ns then σ m else none
def gA(ns:List Nat)(x:AV):Prop:=∀(σ:aw) (v:Value),VR σ x v->VR (AA ns σ) x v
theorem ae2(ns:List Nat)(σ:aw):iM σ<|AA ns σ:=fun k x hk e=>by unfold AA;rw[if_pos<|.inl hk];exact e
theorem gA.hi{x:AV}(h:x.cq=true):gA ns x:=fun σ _ k=>AV.tY (ae2 ns σ) h k
theorem gA.ptr(h:n∈ns):gA ns<|.ptr<|some (n,o):=fun σ v k=>by simp only[VR] at k ⊢;obtain⟨b,N,e1,e2⟩:=k;exact⟨b,N,by unfold AA;rw[if_pos<|.inr h];exact e1,e2⟩
theorem gA.map(h:n∈ns):gA ns<|.map<|some n:=fun σ v k=>by simp only[VR] at k ⊢;obtain⟨b,N,e1,e2⟩:=k;exact⟨b,N,by unfold AA;rw[if_pos<|.inr h];exact e1,e2⟩
theorem gA.slice{len:Nat}{cap:cM}(h:n∈ns):gA ns<|.slice (some (n,o)) len cap:=fun σ v k=>by
 cases cap<;>simp only[VR] at k ⊢
 ·obtain⟨b,N,e1,e2⟩:=k;exact⟨b,N,by unfold AA;rw[if_pos<|.inr h];exact e1,e2⟩
 ·obtain⟨b,N,c,e1,e2⟩:=k;exact⟨b,N,c,by unfold AA;rw[if_pos<|.inr h];exact e1,e2⟩
 ·obtain⟨l,b,N,p,c,e1,e2⟩:=k;exact⟨l,b,N,p,c,by unfold AA;rw[if_pos<|.inr h];exact e1,e2⟩
theorem lI.tok{k:Nat}:lI ns<|.tok k v:=fun _ _ _ _=>trivial
theorem lI.cells{cs:List AV}(hl:cs.length<=top)(h:∀c∈cs,gA ns c):lI ns<|.cells cs.length (Tr.fill cs 0 .nil) []:=fun σ N o' k=>by obtain⟨c,e,r,s,u,f⟩:=k;refine⟨c,e,r,s,u,fun i hi=>?_⟩;obtain⟨x,v,a,b,d,q⟩:=f i hi;refine⟨x,v,a,b,d,h x ?_ σ v q⟩;have:=zA (l:=cs) (i:=i) hl hi;rw[this] at a;exact List.mem_of_getElem? a
theorem lI.row{α:Type}{enc:α->List AV}{l:List α}(hl:(l.map enc).flatten.length<=top)(h:∀c∈(l.map enc).flatten,gA ns c):lI ns<|aI enc l:=lI.cells hl h
noncomputable def eW(enc:S->AV)(f:S->List AV->Option (AV×S)):AV->List AV->Option (AV×AV):=fun v rest=> @dite _ (∃a,enc a=v) (Classical.propDecidable _) (fun h=>(f h.choose rest).map fun p=>(p.1,enc p.2)) fun _=>none
theorem BM(inj:∀a b,enc a=enc b->a=b){a:S}:eW enc f (enc a) rest=(f a rest).map fun p=>(p.1,enc p.2):=by unfold eW;have h:∃b,enc b=enc a:=⟨a,rfl⟩;rw[dif_pos h,inj _ _ h.choose_spec]
theorem BC(h:eW enc f v rest=some (y,v')):∃a a',v=enc a/\f a rest=some (y,a')/\v'=enc a':=by
 unfold eW at h;split at h
 ·rename_i q;cases e:f q.choose rest with
  |none=>rw[e] at h;cases h
  |some p=>
   rw[e] at h;injection h with h
   injection h with h1 h2
   refine⟨_,p.2,q.choose_spec.symm,?_,h2.symm⟩;rw[e, ←h1]
 ·cases h
theorem ae3{val:AV->List AV->Option (AV×AV)}(h:val v rest=some (y,v'))(h1:rest.all AV.hi=true)(h2:y.hi=true):gQ val v rest=some (y,v'):=by unfold gQ;rw[h1,h];show(match y.hi with|true=>some (y,v')|false=>none)=_;rw[h2]
theorem Ka{val:List AV->Option (Option AV×(AV->AV))}(h:val args=some (some v,res))(h1:args.all AV.hi=true):lN val args=some (some v,res):=by unfold lN;rw[h1,h];rfl
theorem VU{val:List AV->Option (Option AV×(AV->AV))}(h:val args=some (none,res))(h1:args.all AV.hi=true)(h2:(res<|.ptr none).hi=true):lN val args=some (none,res):=by unfold lN;rw[h1,h];show(match (res<|.ptr none).hi with|true=>some (none,res)|false=>none)=_;rw[h2]
end Go.Rn
namespace Go.Rn
open Go.RowKit
variable {ρ:aw} {U:Nat}
abbrev Vw:=List<|Nat×Nat×ae
def gj(L:Vw)(m:Nat):Option Nat:=(L.find? fun p=>Nat.beq p.1 m).map fun p=>p.2.1
def eL(U:Nat)(ρ:aw)(L:Vw):aw:=fun m=>if m<U then ρ m else if top<=m then ρ m else match gj L m with
 |some n=>ρ n
 |none=>none
def Lv(L:Vw):List<|Nat×ae:=L.map fun p=>(p.1,p.2.2)
theorem acE{L:Vw}(fn:∀p∈L,∀q∈L,p.1=q.1->p=q){p:Nat×Nat×ae}(hp:p∈L):gj L p.1=some p.2.1:=by
 unfold gj;cases e:L.find? fun q=>Nat.beq q.1 p.1 with
 |none=>exact absurd (List.find?_eq_none.1 e p hp) jI
 |some q=>have h1:=List.mem_of_find?_eq_some e;have h2:=List.find?_some e;have h3:q.1=p.1:=Nat.eq_of_beq_eq_true h2;rw[fn q h1 p hp h3];rfl
theorem acF{L:Vw}{m n:Nat}(h:gj L m=some n):∃p∈L,p.1=m/\p.2.1=n:=by
 unfold gj at h;cases e:L.find? fun q=>Nat.beq q.1 m with
 |none=>rw[e] at h;cases h
 |some q=>rw[e] at h;have h2:=List.find?_some e;refine⟨q,List.mem_of_find?_eq_some e,Nat.eq_of_beq_eq_true h2,?_⟩;injection h
theorem xO{L:Vw}(ht:U<=top){m:Nat}(hm:top<=m):eL U ρ L m=ρ m:=by unfold eL;rw[if_neg ak,if_pos hm]
theorem BN{L:Vw}{m:Nat}(hm:m<U):eL U ρ L m=ρ m:=by unfold eL;rw[if_pos hm]
theorem Gx{L:Vw}{m:Nat}(h1:U<=m)(h2:m<top)(h3:∀p∈L,p.1≠m):eL U ρ L m=none:=by
 unfold eL;rw[if_neg ak,if_neg ak];cases e:gj L m with
 |none=>rfl
 |some n=>obtain⟨p,hp,e1,_⟩:=acF e;exact absurd e1<|h3 p hp
end Go.Rn
