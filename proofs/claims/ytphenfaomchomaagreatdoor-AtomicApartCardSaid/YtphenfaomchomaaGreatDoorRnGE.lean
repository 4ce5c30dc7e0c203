import Derived.Test.YtphenfaomchomaaGreatDoorRnGD
import Derived.CheckFast
import Derived.Lib.ItoaNum
import Derived.LaidMore
import Derived.LaidHandle
import Derived.Lib.LaidTab
import Derived.Sort.Grow
import Derived.Deep.Draws
set_option maxRecDepth 100000
set_option maxHeartbeats 8000000
set_option linter.unusedSimpArgs false
set_option linter.unusedVariables false
namespace Go.Rn
open Go.RowKit
variable {i:Nat} {d:Option Tmp} {v:AV} {o:Oper}
noncomputable section
def aC:List (Nat×AV)->Tr AV
 |[]=>.nil
 |p::l=>(aC l).put p.1<|some p.2
def fU:List (Nat×Option ae)->Tr ae
 |[]=>.nil
 |p::l=>(fU l).put p.1 p.2
def ah(l:List<|Nat×Option ae)(nx:Nat):AS:=⟨fU l,nx,0,[],[]⟩
def VA(P:Program)(f:FuncId):Code:=
 match P.funcs[f]? with
 |none=>.skip
 |some fn=>match fn.body with
  |none=>.skip
  |some c=>c
def aQ(P:Program)(f:FuncId)(p:List Nat):Code:=sP p<|VA P f
def opsOf:Code->Array Oper
 | .region _ ops _=>ops
 |_=> #[]
def pw(P:Program)(YR:aJ)(nt:Nat)(ops:Array Oper)(i n:Nat)(t:Tr AV):M<|Tr AV:=jj P YR nt ops ((ops.toList.drop i).take n) t
def xV(ops:Array Oper)(i:Nat):Option<|Op×Option Tmp×Option (Nat×Bool):=
 match ops[i]? with
 |none=>none
 |some o=>some (o.op,o.dst,o.guard)
end
section
variable {P:Program} {B:aI} {J:Nat} {Q:Tr AV->List Nat->Option Code->AS->Prop} {ρ:Ren} {w:World} {s s1 s2:AS} {YR:aJ} {t t1 t2:Tr AV} {ops:Array Oper} {nt:Nat}
theorem MA{l:List Oper}:jj P YR nt ops (o::l) t=(gO P YR nt ops o t).bind (jj P YR nt ops l):=rfl
theorem TI:∀{l1 l2:List Oper} {t t1:Tr AV} {s s1:AS},jj P YR nt ops l1 t s= .ok t1 s1->jj P YR nt ops (l1++l2) t s=jj P YR nt ops l2 t1 s1
 |[],l2,t,t1,s,s1,h=>by cases h;rfl
 |o::l1,l2,t,t1,s,s1,h=>by rw[MA] at h;obtain⟨t',s',h1,h2⟩:=M.aN h;show jj P YR nt ops (o::(l1++l2)) t s=_;rw[MA,M.bL h1];exact TI h2
theorem Sn{n m:Nat}(h1:pw P YR nt ops i n t s= .ok t1 s1)(h2:pw P YR nt ops (i+n) m t1 s1= .ok t2 s2):pw P YR nt ops i (n+m) t s= .ok t2 s2:=by unfold pw at h1 h2 ⊢;rw[List.take_add,TI h1,List.drop_drop];exact h2
theorem Sq(ho:ops[i]? =some o)(h:gO P YR nt ops o t s= .ok t1 s1):pw P YR nt ops i 1 t s= .ok t1 s1:=by
 unfold pw;have:(ops.toList.drop i).take 1=[o]:=by
  have h1:ops.toList[i]? =some o:=by rw[Array.getElem?_toList];exact ho
  obtain⟨hi,e⟩:=List.getElem?_eq_some_iff.1 h1;rw[List.drop_eq_getElem_cons hi,e];rfl
 rw[this,MA,M.bL h];rfl
theorem Ii{op:Op}{g:Option<|Nat×Bool}(h:xV ops i=some (op,d,g)):∃o,ops[i]? =some o/\o.op=op/\o.dst=d/\o.guard=g:=by
 unfold xV at h;split at h
 ·cases h
 ·rename_i o e;injection h with h
  injection h with h1 h
  injection h with h2 h3
  exact⟨o,e,h1,h2,h3⟩
theorem cz{op:Op}(ho:xV ops i=some (op,d,none))(h:(dI P op).val YR t s= .ok v s1)(hp:ji nt t d v=some t1):pw P YR nt ops i 1 t s= .ok t1 s1:=by obtain⟨o,e,rfl,rfl,e3⟩:=Ii ho;refine Sq e ?_;unfold gO Bl;rw[e3];show rS (dI P o.op) o.dst YR nt t s=_;unfold rS;rw[M.bL h,hp];rfl
theorem ahP{op:Op}{g:Nat×Bool}(ho:xV ops i=some (op,d,some g))(hk:sY ops t g.1=true)(hw:qe ops g t=true)(h:(dI P op).val YR t s= .ok v s1)(hp:ji nt t d v=some t1):pw P YR nt ops i 1 t s= .ok t1 s1:=by obtain⟨o,e,rfl,rfl,e3⟩:=Ii ho;refine Sq e ?_;unfold gO Bl;rw[e3];show tC ops g (dI P o.op) o.dst YR nt t s=_;unfold tC;rw[hk,hw,dA];show((dI P o.op).val YR t).bind (fun v=>lift<|ji nt t o.dst v) s=_;rw[M.bL h,hp];rfl
theorem Me:∀{l:List<|List AV} {K i:Nat} {c:List AV},(∀c∈l,c.length=K)->l[i]? =some c->(l.flatten.drop<|i*K).take K=c
 |[],_,_,_,_,h=>by simp at h
 |x::l,K,0,c,hl,h=>by simp at h;subst h;have hx:=hl x List.mem_cons_self;rw[Nat.zero_mul,List.drop_zero,List.flatten_cons,List.take_append,hx,Nat.sub_self,List.take_zero,List.append_nil, ←hx,List.take_length]
 |x::l,K,i+1,c,hl,h=>by have hx:=hl x List.mem_cons_self;rw[List.flatten_cons,List.drop_append,hx,show(i+1)*K - K=i*K by rw[Nat.add_mul,Nat.one_mul];omega,List.drop_eq_nil_of_le (by rw[hx,Nat.add_mul,Nat.one_mul];omega),List.nil_append];exact Me (fun c hc=>hl c<|List.mem_cons_of_mem _ hc) (by simpa using h)
end
end Go.Rn
namespace Go.Rn
open Go.RowKit
section
variable {P:Program} {s s1:AS} {YR:aJ} {t:Tr AV}
theorem ac7{op:BinOp}{ty yt:TypeId}{x y:Operand}{k:IntKind}{a b:Int}{r:Bool}(hx:aG t x=some (.int k a))(hy:aG t y=some (.int k b))(hs:yQ op=false)(hg:IE P op ty x y (.int k a) (.int k b)=true)(hr:Dn op k a b=some (.bool r)):
 (dI P<|.binOp op ty x y yt).val YR t s= .ok (.bool r) s:=by
 show tM P op ty x y YR t s=_;unfold tM;rw[hx,hy,bV,bV,hg,dA];have:AZ P op ty (.int k a) (.int k b)=some (.bool r):=by unfold AZ;simp only[hs,decide_true];exact hr
 rw[this];rfl
end
end Go.Rn
namespace Go.Rn
open Go.RowKit
section
variable {P:Program} {B:aI} {J:Nat} {Q:Tr AV->List Nat->Option Code->AS->Prop} {s s1 s2:AS} {YR:aJ} {t t1 t2:Tr AV} {ops:Array Oper} {nt:Nat}
theorem ac8{op:BinOp}{ty yt:TypeId}{x y:Operand}{k:IntKind}{a b:Int}{r:AV}(hx:aG t x=some (.int k a))(hy:aG t y=some (.int k b))(hs:yQ op=false)(hg:IE P op ty x y (.int k a) (.int k b)=true)(hr:Dn op k a b=some r):
 (dI P<|.binOp op ty x y yt).val YR t s= .ok r s:=by
 show tM P op ty x y YR t s=_;unfold tM;rw[hx,hy,bV,bV,hg,dA];have:AZ P op ty (.int k a) (.int k b)=some r:=by unfold AZ;simp only[hs,decide_true];exact hr
 rw[this];rfl
noncomputable def tN(P:Program)(YR:aJ)(nt:Nat)(ops:Array Oper)(i n:Nat)(t:Tr AV):M<|Tr AV×List Met:=mY P YR nt ops ((ops.toList.drop i).take n) i t
theorem S3:∀{l1 l2:List Oper} {i:Nat} {t t1 t2:Tr AV} {m1 m2:List Met} {s s1 s2:AS},mY P YR nt ops l1 i t s= .ok (t1,m1) s1->mY P YR nt ops l2 (i+l1.length) t1 s1= .ok (t2,m2) s2->mY P YR nt ops (l1++l2) i t s= .ok (t2,m1++m2) s2
 |[],l2,i,t,t1,t2,m1,m2,s,s1,s2,h,k=>by cases h;exact k
 |o::l1,l2,i,t,t1,t2,m1,m2,s,s1,s2,h,k=>by
  have h':((alone i<|gO P YR nt ops o t).bind fun x=>(mY P YR nt ops l1 (i+1) x.1).bind fun y=>M.pure (y.1,x.2::y.2)) s= .ok (t1,m1) s1:=h;obtain⟨x,sx,e1,e2⟩:=M.aN h';obtain⟨y,sy,e3,e4⟩:=M.aN e2;obtain⟨e5,rfl⟩:=bB e4;injection e5 with e6 e7
  subst e6;subst e7;have:=S3 (i:=i+1) e3 (by rw[show i+1+l1.length=i+(o::l1).length by simp;omega];exact k);show((alone i<|gO P YR nt ops o t).bind fun x=>(mY P YR nt ops (l1++l2) (i+1) x.1).bind fun y=>M.pure (y.1,x.2::y.2)) s=_;rw[M.bL e1,M.bL this];rfl
theorem TJ{i n m N:Nat}{m1 m2:List Met}(hN:ops.size=N)(hi:i+n<=N)(h1:tN P YR nt ops i n t s= .ok (t1,m1) s1)(h2:tN P YR nt ops (i+n) m t1 s1= .ok (t2,m2) s2):tN P YR nt ops i (n+m) t s= .ok (t2,m1++m2) s2:=by unfold tN at h1 h2 ⊢;rw[List.take_add,List.drop_drop];refine S3 h1 ?_;rw[List.length_take,List.length_drop,Array.length_toList,hN,Nat.min_eq_left aj];exact h2
theorem CH:∀{l:List<|Nat×AV} {i:Nat} {y:AV},(∀p∈l,p.1<top)->(aC l).get i=some y->(i,y)∈l
 |[],i,y,_,h=>by have:(Tr.nil:Tr AV).get i=some y:=h;rw[Tr.get_nil] at this;cases this
 |p::l,i,y,hl,h=>by
  have h':((aC l).put p.1<|some p.2).get i=some y:=h;rw[Tr.lP _ _ _ _<|hl p List.mem_cons_self] at h';by_cases e:i=p.1
  ·rw[if_pos e] at h';injection h' with h';subst h';subst e;exact List.mem_cons_self
  ·rw[if_neg e] at h';exact List.mem_cons_of_mem _<|CH (fun q hq=>hl q<|List.mem_cons_of_mem _ hq) h'
theorem uQ:∀{l:List<|Nat×Option ae} {i:Nat} {y:ae},(∀p∈l,p.1<top)->(fU l).get i=some y->(i,some y)∈l
 |[],i,y,_,h=>by have:(Tr.nil:Tr ae).get i=some y:=h;rw[Tr.get_nil] at this;cases this
 |p::l,i,y,hl,h=>by
  have h':((fU l).put p.1 p.2).get i=some y:=h;rw[Tr.lP _ _ _ _<|hl p List.mem_cons_self] at h';by_cases e:i=p.1
  ·rw[if_pos e] at h';have:p=(i,some y):=by rw[e, ←h']
   rw[←this];exact List.mem_cons_self
  ·rw[if_neg e] at h';exact List.mem_cons_of_mem _<|uQ (fun q hq=>hl q<|List.mem_cons_of_mem _ hq) h'
theorem bp.same(x:AV):bp (fun k=>k) x x:=fun _ _ h=>h
theorem lW.same(x:ae):lW (fun k=>k) x x:=fun _ _ _ h=>h
def xH(t:Tr AV):List (Nat×AV)->Prop
 |[]=>True
 |p::l=>t.get p.1=some p.2/\xH t l
def xW(h:Tr ae):List (Nat×Option ae)->Prop
 |[]=>True
 |p::l=>(h.get p.1=p.2/\∀o,p.2=some o->o.kj=true)/\xW h l
theorem xH.mem{t:Tr AV}:∀{l:List<|Nat×AV},xH t l->∀p∈l,t.get p.1=some p.2
 |[],_,p,hp=>by cases hp
 |q::l,h,p,hp=>by
  rcases List.mem_cons.1 hp with rfl|hp
  ·exact h.1
  ·exact xH.mem h.2 p hp
theorem xW.mem{h:Tr ae}:∀{l:List<|Nat×Option ae},xW h l->∀p∈l,h.get p.1=p.2/\∀o,p.2=some o->o.kj=true
 |[],_,p,hp=>by cases hp
 |q::l,k,p,hp=>by
  rcases List.mem_cons.1 hp with rfl|hp
  ·exact k.1
  ·exact xW.mem k.2 p hp
def pL{α:Type}(n:Nat):List (Nat×α)->Bool
 |[]=>true
 |p::l=>Nat.blt p.1 n&&pL n l
theorem wO{α:Type}{n:Nat}:∀{l:List<|Nat×α},pL n l=true->∀p∈l,p.1<n
 |[],_,p,hp=>by cases hp
 |q::l,h,p,hp=>by
  obtain⟨h1,h2⟩:=and_true.1 h;rcases List.mem_cons.1 hp with rfl|hp
  ·exact(blt_eq _ _).mp h1
  ·exact wO h2 p hp
theorem au.less{f:FuncId}{K:List Item}{l:List<|Nat×AV}{o:List<|Nat×Option ae}{nx:Nat}(hl:pL top l=true)(ho:pL top o=true)(hn:(Nat.ble s.nx nx&&Nat.ble nx top)=true)(hg:fL<=J)(ht:xH t l)(hh:xW s.h o)(H:au P B J Q ⟨f,aC l,nt,K,[],none⟩<|ah o nx):au P B J Q ⟨f,t,nt,K,[],none⟩ s:=by
 obtain⟨BR,uh⟩:=and_true.1 hn;have BR:=aK.1 BR;have uh:=aK.1 uh;refine au.weaken (s2:=ah o nx) (t2:=aC l) [] (fun k=>k) (fun _ _=>rfl) (fun k hk ht=>⟨Nat.le_trans BR hk,ht⟩) (fun _ _=>rfl) hg ⟨Nat.zero_le _,uh⟩ rfl rfl (fun _ h=>by cases h) (fun i y hy=>?_) (fun n o2 hn hg=>?_) (fun _ h=>by cases h) (fun n m _ _ _ _ _ _ e=>e) H
 ·have:=CH (fun p hp=>wO hl p hp) hy;exact⟨y,ht.mem _ this,(bp.same y).z⟩
 ·have:=uQ (fun p hp=>wO ho p hp) hg;obtain⟨h1,h2⟩:=hh.mem _ this;exact⟨hn,.inl<|h2 o2 rfl,o2,h1,fM.refl _,(lW.same o2).z⟩
end
end Go.Rn
namespace Go.Rn
open Go.RowKit
section
variable {P:Program} {s s1:AS} {YR:aJ} {t:Tr AV}
theorem L6{l z:List AV}(hl:l.length<=top):∀(k off:Nat),off+k<=l.length->lS (Tr.fill l 0 .nil) z k off=some ((l.drop off).take k)
 |0,off,_=>by simp[lS]
 |k+1,off,h=>by
  have cf:off<l.length:=by omega
  have hc:cellAt (Tr.fill l 0 .nil) z off=some l[off]:=by unfold cellAt;rw[Tr.sH _ _ _ _ aj,if_pos aj,Nat.sub_zero,List.getElem?_eq_getElem cf]
  simp only[lS,hc,L6 hl k (off+1) aj];rw[List.drop_eq_getElem_cons cf,List.take_succ_cons]
noncomputable def aD{α:Type}(enc:α->List AV)(l:List α):ae:=.cells (l.map enc).flatten.length (Tr.fill (l.map enc).flatten 0 .nil) []
theorem ac9{o:ae}(ht:s.nx<top):gC o s= .ok s.nx {s with h:=s.h.put s.nx<|some o,nx:=s.nx+1}:=by
 obtain⟨hh,nx,mark,rd,wr⟩:=s;have e1:Nat.blt nx top=true:=by rw[blt_eq];exact ht
 show @Bool.rec (fun _=>R Nat) .bad (forced nx fun m=>.ok m ⟨hh.put m<|some o,m+1,mark,rd,wr⟩) (Nat.blt nx top)=_;rw[e1,yL]
theorem HV{l:List AV}(hl:l.length<=top)(h1:l.all AV.bR=true)(ht:s.nx<top):newRow l s= .ok s.nx {s with h:=s.h.put s.nx<|some<|.cells l.length (Tr.fill l 0 .nil) [],nx:=s.nx+1}:=by unfold newRow;rw[show(and (Nat.ble l.length top)<|l.all AV.bR)=true from and_true.2 ⟨aK.2 hl,h1⟩,dA];exact ac9 ht
end
end Go.Rn
namespace Go.Rn
open Go.RowKit
end Go.Rn
namespace Go.Rn
open Go.RowKit
noncomputable section
def cq(m:List<|Int×Int):List<|AV×AV:=m.map fun p=>(.int .i64 p.1,.int .i64 p.2)
def xX(m:List<|Int×Int):ae:=.map (cq m) m.length
end
def getM:List (Int×Int)->Int->Int
 |[],_=>0
 |p::l,k=>if p.1=k then p.2 else getM l k
def fO:List (Int×Int)->Int->Int->List (Int×Int)
 |[],k,v=>[(k,v)]
 |p::l,k,v=>if p.1=k then(k,v)::l else p::fO l k v
section
variable {P:Program} {s s1:AS} {YR:aJ} {t:Tr AV}
theorem TK(a b:Int):sameKey (.int .i64 a) (.int .i64 b)=some (a == b):=rfl
theorem TL(k:Int):∀(m:List<|Int×Int) (i:Nat),(kR (.int .i64 k) (cq m) i=some none/\getM m k=0/\∀v,fO m k v=m++[(k,v)])\/
 ∃j y,kR (.int .i64 k) (cq m) i=some (some (i+j,.int .i64 y))/\getM m k=y/\m[j]? =some (k,y)/\∀v,putAt (cq m) j (.int .i64 k) (.int .i64 v)=cq (fO m k v)/\(fO m k v).length=m.length
 |[],i=>.inl ⟨rfl,rfl,fun _=>rfl⟩
 |p::l,i=>by
  have hf:kR (.int .i64 k) (cq<|p::l) i=(match some (k == p.1) with|none=>none|some true=>some (some (i,.int .i64 p.2))|some false=>kR (.int .i64 k) (cq l)<|i+1):=rfl;by_cases e:p.1=k
  ·refine .inr ⟨0,p.2,?_,?_,?_,fun v=>⟨?_,?_⟩⟩
   ·rw[hf,show(k == p.1)=true by simp[e]];rfl
   ·simp[getM,e]
   ·simp[←e]
   ·simp[fO,e,cq,putAt]
   ·simp[fO,e]
  ·have ch:(k == p.1)=false:=by simp;exact fun q=>e q.symm
   rcases TL k l (i+1) with⟨h1,h2,h3⟩|⟨j,y,h1,h2,h3,h4⟩
   ·refine .inl ⟨?_,?_,fun v=>?_⟩
    ·rw[hf,ch];exact h1
    ·simp[getM,e,h2]
    ·simp[fO,e,h3 v]
   ·refine .inr ⟨j+1,y,?_,?_,?_,fun v=>⟨?_,?_⟩⟩
    ·rw[hf,ch];show kR _ _ _=_;rw[h1];congr 3;omega
    ·simp[getM,e,h2]
    ·simpa using h3
    ·have:=(h4 v).1;simp only[fO,e,if_false];show(_:AV×AV)::putAt (cq l) j _ _=_::cq (fO l k v);rw[this]
    ·simp[fO,e,(h4 v).2]
end
end Go.Rn
namespace Go.Rn
open Go.RowKit
section
variable {r:Nat->Nat}
theorem bp.int(k:IntKind)(n:Int):bp r (.int k n)<|.int k n:=fun _ _ h=>h
theorem bp.bool(b:Bool):bp r (.bool b)<|.bool b:=fun _ _ h=>h
theorem bp.yN:bp r (.slice none 0<|.known 0)<|.slice none 0<|.known 0:=fun _ _ h=>h
theorem bp.ptr{n m o:Nat}(e:r m=n):bp r (.ptr<|some (n,o))<|.ptr<|some (m,o):=by intro ρ v h;simp only[VR] at h ⊢;rw[e];exact h
theorem bp.map{n m:Nat}(e:r m=n):bp r (.map<|some n)<|.map<|some m:=by intro ρ v h;simp only[VR] at h ⊢;rw[e];exact h
theorem bp.slice{n m o len:Nat}{c:bZ}(e:r m=n):bp r (.slice (some (n,o)) len c)<|.slice (some (m,o)) len c:=by intro ρ v h;cases c<;>simp only[VR] at h ⊢ <;>rw[e]<;>exact h
theorem bp.U{n o len:Nat}(e:r n=n)(hr:∀k,top<=k->r k=k):bp r (.U n o len)<|.U n o len:=by intro ρ v h;simp only[VR] at h ⊢;refine h.imp id fun⟨b,sh,c,h1,h2⟩=>⟨b,sh,c,h1.imp (fun q=>⟨q.1,(congrArg ρ e).trans q.2⟩) fun q=>⟨q.1,fun z=>q.2<|(congrArg ρ<|hr _<|gf _ _ _).symm.trans z⟩,h2⟩
def AV.flat:AV->Bool
 | .bool _| .int _ _| .str _| .J9 _=>true
 | .ptr none| .map none| .nilFunc| .nilIface=>true
 | .slice none _ (.known _)=>true
 |_=>false
theorem bp.flat{x:AV}(h:x.flat=true):bp r x x:=by
 intro ρ v k;cases x<;>first|exact k|skip
 case slice a len cap=>cases a with
  |some _=>cases h
  |none=>cases cap with
   |known c=>simp only[VR] at k ⊢;exact k
   |aq _ _=>cases h
   |lost=>cases h
 all_goals first|(cases h;done)|skip
 all_goals
  rename_i a;cases a with
  |none=>exact k
  |some _=>cases h
def oB(r:Nat->Nat):List AV->List AV->Prop
 |[],[]=>True
 |x::l,y::m=>bp r x y/\oB r l m
 |_,_=>False
theorem oB.length:∀{l m:List AV},oB r l m->l.length=m.length
 |[],[],_=>rfl
 |_::_,_::_,h=>by simp[oB.length h.2]
 |[],_::_,h=>by cases h
 |_::_,[],h=>by cases h
theorem oB.ar:∀{l m:List AV} {i:Nat} {x y:AV},oB r l m->l[i]? =some x->m[i]? =some y->bp r x y
 |x::l,y::m,0,a,b,h,h1,h2=>by simp at h1 h2;subst h1;subst h2;exact h.1
 |x::l,y::m,i+1,a,b,h,h1,h2=>oB.ar h.2 (by simpa using h1) (by simpa using h2)
 |[],[],_,_,_,_,h1,_=>by simp at h1
 |_::_,[],_,_,_,h,_,_=>by cases h
 |[],_::_,_,_,_,h,_,_=>by cases h
theorem oB.flat:∀{l:List AV},l.all AV.flat=true->oB r l l
 |[],_=>trivial
 |x::l,h=>by obtain⟨h1,h2⟩:=and_true.1 (show(x.flat&&l.all AV.flat)=true from h);exact⟨bp.flat h1,oB.flat h2⟩
theorem lW.cells{l m:List AV}(hl:l.length<=top)(h:oB r l m)(h1:m.all AV.bR=true):lW r (.cells l.length (Tr.fill l 0 .nil) [])<|.cells m.length (Tr.fill m 0 .nil) []:=by
 have hlen:=h.length;intro ρ N o k;obtain⟨c,e,rfl,k1,k2,k3⟩:=k;refine⟨c,e,rfl,k1,by omega,fun i hi=>?_⟩;obtain⟨x,v,a1,a2,a3,a4⟩:=k3 i aj;have hx:l[i]? =some x:=by unfold cellAt at a1;rw[Tr.sH _ _ _ _ aj,if_pos aj,Nat.sub_zero,List.getElem?_eq_getElem aj] at a1;rw[List.getElem?_eq_getElem aj];exact a1
 have hy:m[i]? =some m[i]:=List.getElem?_eq_getElem hi;refine⟨m[i],v,?_,?_,a3,h.ar hx hy ρ v a4⟩
 ·unfold cellAt;rw[Tr.sH _ _ _ _ aj,if_pos aj,Nat.sub_zero,hy]
 ·exact List.all_eq_true.1 h1 _<|List.getElem_mem hi
theorem lW.aD{α:Type}{enc:α->List AV}{l:List α}(he:∀x,(enc x).all AV.flat=true/\(enc x).all AV.bR=true)(hl:(l.map enc).flatten.length<=top):lW r (aD enc l)<|aD enc l:=by
 have hf:∀(p:AV->Bool),(∀x,(enc x).all p=true)->∀l:List α,(l.map enc).flatten.all p=true:=by
  intro p hp l;induction l with
  |nil=>rfl
  |cons x l ih=>simp only[List.map_cons,List.flatten_cons,List.all_append,ih,hp x,Bool.and_true]
 exact lW.cells hl (oB.flat<|hf _ (fun x=>(he x).1) l)<|hf _ (fun x=>(he x).2) l
def agc(r:Nat->Nat)(h:Tr ae):List (Nat×ae)->Prop
 |[]=>True
 |p::l=>(p.2.plain=true/\∃x,h.get (r p.1)=some x/\(x.dk=p.2.dk/\x.mL=p.2.mL)/\lW r x p.2)/\agc r h l
def aY:List (Nat×ae)->List (Nat×Option ae)
 |[]=>[]
 |p::l=>(p.1,some p.2)::aY l
theorem MB:∀{l:List<|Nat×ae} {i:Nat} {y:ae},(i,some y)∈aY l->(i,y)∈l
 |p::l,i,y,h=>by
  rcases List.mem_cons.1 h with h|h
  ·injection h with h1 h2
   injection h2 with h2
   have:p=(i,y):=by rw[h1,h2]
   rw[←this];exact List.mem_cons_self
  ·exact List.mem_cons_of_mem _<|MB h
variable {P:Program} {B:aI} {Q:Tr AV->List Nat->Option Code->AS->Prop} {s:AS} {t:Tr AV} {nt:Nat}
end
end Go.Rn
namespace Go.Rn
end Go.Rn
namespace Go.Rn
open Go.RowKit
noncomputable section
end
section
variable {P:Program} {s s1:AS} {YR:aJ} {t:Tr AV}
end
end Go.Rn
namespace Go.Rn
open Go.RowKit
noncomputable section
def Fin(P:Program)(rs:List ResultVar)(R:AV->AS->Prop):Tr AV->List Nat->Option Code->AS->Prop:=fun t d j s=>∃x s3,finish P rs ⟨0,t,0,[],d,none⟩ j s= .ok x s3/\R x s3
end
section
variable {P:Program} {B:aI} {ρ:Ren} {w:World} {s s1:AS} {YR:aJ}
theorem E3(rs:List ResultVar)(fr:AF)(j:Option Code):finish P rs fr j=finish P rs ⟨0,fr.tmps,0,[],fr.defers,none⟩ j:=rfl
theorem au.calls(hP:bS P){g:FuncId}{fn:Func}{body:Code}{args:List AV}{vs:Array Value}{R:AV->AS->Prop}(cm:P.funcs[g]? =some fn)(cw:fn.body=some body)(oP:max fn.ntmps args.length<=top)(H:au P B s.nx (Fin P fn.results.toList R) ⟨g,dc args,max fn.ntmps args.length,[.code body],[],none⟩ s)(fi:bC s)(r:Rel B ρ s.h w)(hg:gD ρ)(hf:∀k,s.nx<=k->k<top->ρ k=none)(hv:ay ρ args vs.toList):
 Calls P g vs w fun e w'=>∃v x s3,e= .returned v/\R x s3/\s.nx<=s3.nx/\bC s3/\km B ρ s s3 w x v w':=by
 intro cs;let b:Frame:={(default:Frame) with fn:=g,kind:=.normal,roundOf:=none};let a:Act:={tmps:=vs++Array.replicate (fn.ntmps - vs.size) undef,defers:=[]};have xm:Frame.enter P g vs .normal=b.atR a [.code body]:=by simp[Frame.enter,Frame.atR,cm,cw,b,a]
 have bD:Fr ρ ⟨g,dc args,max fn.ntmps args.length,[.code body],[],none⟩ b a:=⟨rfl,rfl,trivial,rfl,.cons (hP.code g fn body cm cw) .nil⟩;have ax:At B ρ s (max fn.ntmps args.length) (dc args) w a:=⟨Hx hv _ oP,r,hg,oP,fi⟩;obtain⟨fr,j,s2,σ,a',w',⟨x,s3,pK,hR⟩,en,e0,G6,e1,e2,e3,e4,e5,e6,e7,e8⟩:=H ρ w b a cs bD ax hf;have O8:finish P fn.results.toList fr j s2= .ok x s3:=by rw[E3];exact pK
 have zY:bC s2:=e2.cn;have ahQ:Ext s.nx s2.nx ρ σ:=by
  refine⟨fun k y hk=>?_,fun k gu hk=>?_⟩
  ·by_cases qt:k<top
   ·by_cases q:s.nx<=k
    ·rw[hf k q qt] at hk;cases hk
    ·rw[e0 k aj qt];exact hk
   ·exact G6 k y aj hk
  ·by_cases q:k<s.nx
   ·exact e0 k q gu
   ·rw[e1 k aj gu,hf k aj gu]
 obtain⟨hj,u2,s4,rs,h7,h9,hx⟩:=Mc O8;have o6:bC s4:=(YQ.qZ _).cn zY h7;have pU:Leaves j fr.todo:=e7;obtain⟨d1,d2,w2,d3,d4,d5⟩:=Hw (P:=P) (fr:=b) (cs:=cs) zY e2.rel e3 h7;obtain⟨f1,f2,us,f3,f4⟩:=Ht (P:=P) (w:=w2) e2.tr o6 d3 h9;have ju:bC s3:=(YQ.sI P fr.tmps _).cn o6 h9;have Gp:Steps P (lone (b.atR a' fr.todo) cs w')<|lone {b.atR a' fr.todo with mode:=.returning} cs w':=by
  rcases hj with rfl|rfl
  ·have e:fr.todo=[]:=pU;rw[e];exact .one<|stepR_end rfl
  ·obtain⟨k,e⟩:=pU;rw[e];exact .one<|stepR_ret rfl
 have xG:=d5 {b.atR a' fr.todo with mode:=.returning} cs jI rfl;have lE:(results fn a'.tmps).run P w2= .ok (oq us) w2:=by
  unfold results;rw[Array.mapM_eq_mapM_toList];simp only[Sem.run_bind,map_eq_pure_bind,Sem.run_pure];refine Eq.trans (congrArg (fun r:Result (List Value)=>(r.andThen fun a w'=>Result.ok a.toArray w').andThen fun a w'=>Result.ok (if h:a.size=1 then a[0] else Value.tuple a) w') f3) ?_;have:∀l:List Value,(Result.ok (if h:l.toArray.size=1 then l.toArray[0] else Value.tuple l.toArray) w2:Result Value)= .ok (oq l) w2:=by
   intro l
   match l with
   |[]=>rfl
   |[v]=>rfl
   |v::v2::l=>simp[oq]
  exact this us
 have XK:s3.nx=s2.nx:=by rw[f2,d1]
 have hle:s.nx<=s3.nx:=by rw[XK];exact en
 refine⟨.returned<|oq us,w2,{b.atR a' fr.todo with mode:=.returning,defers:=[]},⟨_,x,s3,rfl,hR,hle,ju,?_⟩,?_,rfl,?_⟩
 ·exact⟨σ,by rw[XK];exact ahQ,by rw[hx];exact My f4,by rw[f1];exact d3,e4.trans d4⟩
 ·rw[xm];exact Steps.trans e8<|Steps.trans Gp xG
 ·exact⟨rfl,rfl,rfl,fn,cm,lE⟩
end
end Go.Rn
namespace Go.Rn
variable {P:Program} {YR:aJ} {nt:Nat} {ops:Array Oper} {t t1:Tr AV}
theorem sB{P:Program}{w:World}{f:FuncId}{fn:Func}{body:Code}{vs:Array Value}(cm:P.funcs[f]? =some fn)(cw:fn.body=some body)(dF:(fn.name == "runtime.NumGoroutine")=false):(callFunc f vs).run P w= .ok (.enter f vs) w:=by
 have F3:(program).run P w= .ok P w:=rfl;have hn:fn.name≠ "runtime.NumGoroutine" :=by simpa using dF
 simp only[callFunc,Sem.run_bind,F3,Result.andThen_ok,cm,dF,cw];simp
theorem uK{K:Nat}:∀{l:List<|List AV},(∀c∈l,c.length=K)->l.flatten.length=l.length*K
 |[],_=>by simp
 |c::l,h=>by rw[List.flatten_cons,List.length_append,h c List.mem_cons_self,uK fun c' h'=>h c'<|List.mem_cons_of_mem _ h',List.length_cons,Nat.add_mul,Nat.one_mul];omega
theorem aeL{s:AS}{ty yt:TypeId}{x y:Operand}{k:IntKind}{a b c:Int}(hx:aG t x=some (.int k a))(hy:aG t y=some (.int k b))(h0:b≠0)(h:a.tmod b=c):(dI P<|.binOp .rem ty x y yt).val YR t s= .ok (.int k c) s:=ac8 hx hy rfl rfl (by subst h;simp only[Dn,decide_eq_false h0])
end Go.Rn
namespace Go.Rn
open Go.RowKit
section
variable {P:Program} {YR:aJ} {nt:Nat} {ops:Array Oper} {t t1:Tr AV}
end
noncomputable section
end
end Go.Rn
namespace Go.Rn
open Go.RowKit
variable {t1:Tr AV} {g:Option<|Nat×Bool} {d:Option Tmp} {v:AV} {id:Nat} {c:Code}
noncomputable section
instance:Inhabited<|Tr AV:=⟨.nil⟩
def Chunk(P:Program)(YR:aJ)(G:AF->AS->Prop):Prop:=∀(k:Nat) (fr aO:AF) (s s1:AS),dX P YR k fr s= .ok (.go aO) s1->G aO s1->G fr s
def Ev(P:Program)(YR:aJ)(R:AF->Option Code->AS->Prop)(fr:AF)(s:AS):Prop:=∃k aO j s1,dX P YR k fr s= .ok (.leave aO j) s1/\R aO j s1
def zC(P:Program)(B:aI)(J:Nat)(Q:Tr AV->List Nat->Option Code->AS->Prop)(fr:AF)(s:AS):Prop:=J<=s.nx->au P B J Q fr s
def xY(P:Program)(YR:aJ)(G:AF->AS->Prop)(f nt:Nat)(K:List Item)(ops:Array Oper)(i:Nat)(t:Tr AV)(s:AS):Prop:=∃t1 s1,pw P YR nt ops i (ops.size - i) t s= .ok t1 s1/\G ⟨f,t1,nt,K,[],none⟩ s1
def qD(P:Program)(YR:aJ)(G:AF->AS->Prop)(f nt:Nat)(K:List Item)(ops:Array Oper)(acc:List Met)(i:Nat)(t:Tr AV)(s:AS):Prop:=∃t1 ms s1,tN P YR nt ops i (ops.size - i) t s= .ok (t1,ms) s1/\qk (Region.before ops) (acc++ms) (acc++ms)=true/\G ⟨f,t1,nt,K,[],none⟩ s1
def Jd(s:AS):AS:=⟨s.h,s.nx,s.nx,[],[]⟩
def Dv(s s1:AS):AS:=⟨s1.h,s1.nx,s.mark,below s.mark s1.rd++s.rd,below s.mark s1.wr++s.wr⟩
def Kk(i:Nat)(s s1:AS):Met:=⟨i,below s.nx s1.rd,below s.nx s1.wr,s.nx,s1.nx⟩
end
section
variable {P:Program} {B:aI} {J:Nat} {Q:Tr AV->List Nat->Option Code->AS->Prop} {s s1:AS} {YR:aJ} {t:Tr AV} {ops:Array Oper} {f nt i:Nat} {K:List Item} {G:AF->AS->Prop} {acc:List Met}
theorem Chunk.Em(bI:P.follows .mixedOrders=true)(hc:fT P B YR)(hl:∀t a,YQ<|YR t a):Chunk P YR<|zC P B J Q:=by intro k fr aO s s1 h H h0 ρ w b a cs bD ax hf;have le:=(YQ.dX P hl k fr).le ax.cn h;exact au.chunk bI hc hl h h0 (H<|Nat.le_trans h0 le) ρ w b a cs bD ax hf
theorem S4:∀{k m:Nat} {fr aO:AF} {s s1:AS},dX P YR k fr s= .ok (.go aO) s1->dX P YR (k+m) fr s=dX P YR m aO s1
 |0,m,fr,aO,s,s1,h=>by cases h;rw[Nat.zero_add]
 |k+1,m,fr,aO,s,s1,h=>by
  obtain⟨y,s2,h1,h2⟩:=M.aN (show((je P YR fr).bind fun x=> @br.rec (fun _=>M br) (dX P YR k) (fun fr j=>M.pure<|.leave fr j) x) s= .ok _ s1 from h);cases y with
  |go pV=>rw[show k+1+m=(k+m)+1 by omega,AM h1];exact S4 h2
  |leave pV j'=>cases h2
theorem Chunk.ev{R:AF->Option Code->AS->Prop}:Chunk P YR<|Ev P YR R:=by intro k fr aO s s1 h ⟨m,kv,j,s2,h1,h2⟩;exact⟨k+m,kv,j,s2,by rw[S4 h];exact h1,h2⟩
theorem Chunk.zV(hG:Chunk P YR G)(Du:c= .region id (opsOf c) false)(H:xY P YR G f nt K (opsOf c) 0 t s):G ⟨f,t,nt,.code c::K,[],none⟩ s:=by
 obtain⟨t1,s1,h,H⟩:=H;refine hG 1 _ _ _ s1 (AM ?_) H;have ht:((opsOf c).toList.drop 0).take ((opsOf c).size - 0)=(opsOf c).toList:=by rw[List.drop_zero,Nat.sub_zero, ←Array.length_toList,List.take_length]
 unfold pw at h;rw[ht] at h;rw[Du];show((jj P YR nt (opsOf c) (opsOf c).toList t).bind fun t=>M.pure<|br.go ⟨f,t,nt,K,[],none⟩) s=_;rw[M.bL h];rfl
theorem Chunk.ahR(hG:Chunk P YR G)(Du:c= .region id (opsOf c) true)(H:qD P YR G f nt K (opsOf c) [] 0 t s):G ⟨f,t,nt,.code c::K,[],none⟩ s:=by
 obtain⟨t1,ms,s1,h,hm,H⟩:=H;rw[List.nil_append] at hm;refine hG 1 _ _ _ s1 (AM ?_) H;have ht:((opsOf c).toList.drop 0).take ((opsOf c).size - 0)=(opsOf c).toList:=by rw[List.drop_zero,Nat.sub_zero, ←Array.length_toList,List.take_length]
 unfold tN at h;rw[ht] at h;rw[Du];show((qc P YR nt (opsOf c) t).bind fun t=>M.pure<|br.go ⟨f,t,nt,K,[],none⟩) s=_;have:qc P YR nt (opsOf c) t s= .ok t1 s1:=by unfold qc;rw[M.bL h];show aF (qk (Region.before<|opsOf c) ms ms) (M.pure t1) s1=_;rw[hm,dA];rfl
 rw[M.bL this];rfl
theorem xY.done(h:Nat.ble ops.size i=true)(H:G ⟨f,t,nt,K,[],none⟩ s):xY P YR G f nt K ops i t s:=by refine⟨t,s,?_,H⟩;rw[show ops.size - i=0 by have:=aK.1 h;omega];unfold pw;rw[List.take_zero];rfl
theorem qD.done(h:(Nat.ble ops.size i&&qk (Region.before ops) acc acc)=true)(H:G ⟨f,t,nt,K,[],none⟩ s):qD P YR G f nt K ops acc i t s:=by obtain⟨h1,h2⟩:=and_true.1 h;refine⟨t,[],s,?_,by rw[List.append_nil];exact h2,H⟩;rw[show ops.size - i=0 by have:=aK.1 h1;omega];unfold tN;rw[List.take_zero];rfl
theorem xY.step(hn:Nat.blt i ops.size=true)(h:pw P YR nt ops i 1 t s= .ok t1 s1)(H:xY P YR G f nt K ops (i+1) t1 s1):xY P YR G f nt K ops i t s:=by obtain⟨t2,s2,h1,h2⟩:=H;have cf:=(blt_eq _ _).mp hn;refine⟨t2,s2,?_,h2⟩;rw[show ops.size - i=1+(ops.size - (i+1)) by omega];exact Sn h h1
theorem qD.step{ms:List Met}(hn:Nat.blt i ops.size=true)(h:tN P YR nt ops i 1 t s= .ok (t1,ms) s1)(H:qD P YR G f nt K ops (acc++ms) (i+1) t1 s1):qD P YR G f nt K ops acc i t s:=by obtain⟨t2,ms2,s2,h1,h2,h3⟩:=H;have cf:=(blt_eq _ _).mp hn;refine⟨t2,_,s2,?_,by rw[←List.append_assoc];exact h2,h3⟩;rw[show ops.size - i=1+(ops.size - (i+1)) by omega];exact TJ rfl aj h h1
theorem UC{op:Op}(h:xV ops i=some (op,d,g)):Nat.blt i ops.size=true:=by obtain⟨o,e,_⟩:=Ii h;rw[blt_eq];exact(Array.getElem?_eq_some_iff.1 e).1
noncomputable def JP(ops:Array Oper)(g:Option<|Nat×Bool)(t:Tr AV):Bool:=
 match g with
 |none=>true
 |some g=>sY ops t g.1&&qe ops g t
theorem aeM{op:Op}(ho:xV ops i=some (op,d,g))(hw:JP ops g t=true)(h:(dI P op).val YR t s= .ok v s1)(hp:ji nt t d v=some t1):pw P YR nt ops i 1 t s= .ok t1 s1:=by
 cases g with
 |none=>exact cz ho h hp
 |some g=>obtain⟨h1,h2⟩:=and_true.1 (show(sY ops t g.1&&qe ops g t)=true from hw);exact ahP ho h1 h2 h hp
theorem ada{op:Op}(ho:xV ops i=some (op,d,g))(hw:JP ops g t=true)(h:(dI P op).val YR t (Jd s)= .ok v s1)(hp:ji nt t d v=some t1):tN P YR nt ops i 1 t s= .ok (t1,[Kk i s s1]) (Dv s s1):=by
 obtain⟨o,e,rfl,rfl,e3⟩:=Ii ho;unfold tN;have hl:(ops.toList.drop i).take 1=[o]:=by
  have h1:ops.toList[i]? =some o:=by rw[Array.getElem?_toList];exact e
  obtain⟨hi,e⟩:=List.getElem?_eq_some_iff.1 h1;rw[List.drop_eq_getElem_cons hi,e];rfl
 rw[hl];have ha:gO P YR nt ops o t (Jd s)= .ok t1 s1:=by
  unfold gO Bl;rw[e3];cases g with
  |none=>show rS (dI P o.op) o.dst YR nt t _=_;unfold rS;rw[M.bL h,hp];rfl
  |some g=>obtain⟨h1,h2⟩:=and_true.1 (show(sY ops t g.1&&qe ops g t)=true from hw);show tC ops g (dI P o.op) o.dst YR nt t _=_;unfold tC;rw[h1,h2,dA];show((dI P o.op).val YR t).bind (fun v=>lift<|ji nt t o.dst v) _=_;rw[M.bL h,hp];rfl
 have hal:alone i (gO P YR nt ops o t) s= .ok (t1,Kk i s s1) (Dv s s1):=by obtain⟨hh,nx,mark,rd,wr⟩:=s;obtain⟨yj,pR,O4,gq,nW⟩:=s1;unfold alone;simp only[yL];show(@R.rec _ (fun _=>R<|Tr AV×Met) .bad (fun a s1=>_)<|gO P YR nt ops o t<|Jd ⟨hh,nx,mark,rd,wr⟩)=_;rw[ha];rfl
 show((alone i<|gO P YR nt ops o t).bind fun x=>(mY P YR nt ops [] (i+1) x.1).bind fun y=>M.pure (y.1,x.2::y.2)) s=_;rw[M.bL hal];rfl
def PI:BinOp->Int->Int->Option Bool
 | .lss,a,b=>some<|decide<|a<b
 | .leq,a,b=>some<|decide<|a<=b
 | .gtr,a,b=>some<|decide<|a>b
 | .geq,a,b=>some<|decide<|a>=b
 | .eql,a,b=>some<|a == b
 | .neq,a,b=>some<|!(a == b)
 |_,_,_=>none
theorem aeN{op:BinOp}{ty yt:TypeId}{x y:Operand}{k:IntKind}{a b:Int}{r:Bool}(hx:aG t x=some (.int k a))(hy:aG t y=some (.int k b))(h:PI op a b=some r):(dI P<|.binOp op ty x y yt).val YR t s= .ok (.bool r) s:=by cases op<;>simp only[PI,Option.some.injEq,reduceCtorEq] at h<;>exact ac7 hx hy rfl rfl (by subst h;rfl)
theorem zC.start(h:Nat.ble J s.nx=true){fr:AF}(H:zC P B J Q fr s):au P B J Q fr s:=H<|aK.1 h
theorem Fk{g:FuncId}{fn:Func}(h:P.funcs[g]? =some fn)(hb:fn.body.isSome=true):fn.body=some (aQ P g []):=by
 unfold aQ VA;rw[h];simp only[sP];cases e:fn.body with
 |none=>rw[e] at hb;cases hb
 |some c=>rfl
end
end Go.Rn
namespace Go.Rn
open Go.RowKit
variable {α:Type} {l:List α} {i K n j:Nat} {enc:α->List AV} {c x c':α}
theorem S5{α:Type}(u v:Option α):∀(p q:List Bool) (t:Tr α),p≠q->Tr.mj u p (Tr.mj v q t)=Tr.mj v q (Tr.mj u p t)
 |[],[],_,h=>absurd rfl h
 |[],b::q,t,_=>by
  cases t with
  |nil=>cases b<;>rfl
  |node l x r=>cases b<;>rfl
 |a::p,[],t,_=>by
  cases t with
  |nil=>cases a<;>rfl
  |node l x r=>cases a<;>rfl
 |a::p,b::q,t,h=>by
  have ih:∀t:Tr α,a=b->Tr.mj u p (Tr.mj v q t)=Tr.mj v q (Tr.mj u p t):=fun t e=>S5 u v p q t (fun e2=>h<|by rw[e,e2]);cases t with
  |nil=>cases a<;>cases b<;>simp[Tr.MY,Tr.EU,ih]
  |node l x r=>cases a<;>cases b<;>simp[Tr.EU,ih]
theorem MC(u v:Option α):∀(p:List Bool) (t:Tr α),Tr.mj u p (Tr.mj v p t)=Tr.mj u p t
 |[],t=>by cases t<;>rfl
 |a::p,t=>by
  cases t with
  |nil=>cases a<;>simp[Tr.MY,Tr.EU,MC u v p]
  |node l x r=>cases a<;>simp[Tr.EU,MC u v p]
theorem put_comm(t:Tr α)(n m:Nat)(u v:Option α)(hn:n<top)(h:n≠m):(t.put m v).put n u=(t.put n u).put m v:=S5 u v _ _ t fun e=>Uq hn (fun e2=>h e2.symm) e.symm
theorem abX(t:Tr α)(n:Nat)(u v:Option α):(t.put n v).put n u=t.put n u:=MC u v _ t
theorem TM:∀(l:List α) (i:Nat) (t:Tr α) (n:Nat),n<i->n<top->(Tr.fill l i t).put n (some x)=Tr.fill l i (t.put n<|some x)
 |[],_,_,_,_,_=>rfl
 |y::l,i,t,n,h,hn=>by show(Tr.fill l (i+1)<|t.put i<|some y).put n (some x)=Tr.fill l (i+1) ((t.put n<|some x).put i<|some y);rw[TM l (i+1) _ n aj hn,put_comm t n i _ _ hn aj]
theorem S6:∀(l:List α) (i k:Nat) (t:Tr α),k<l.length->i+k<top->(Tr.fill l i t).put (i+k) (some x)=Tr.fill (l.set k x) i t
 |[],_,_,_,h,_=>by simp at h
 |y::l,i,0,t,_,h=>by show(Tr.fill l (i+1)<|t.put i<|some y).put i (some x)=Tr.fill l (i+1) (t.put i<|some x);rw[TM l (i+1) _ i aj h,abX]
 |y::l,i,k+1,t,h,ht=>by show(Tr.fill l (i+1)<|t.put i<|some y).put (i+(k+1)) (some x)=Tr.fill (l.set k x) (i+1) (t.put i<|some y);rw[show i+(k+1)=i+1+k by omega];exact S6 l (i+1) k _ (by simpa using h) aj
def ij:List α->Nat->List α->List α
 |l,_,[]=>l
 |l,k,x::r=>ij (l.set k x) (k+1) r
theorem S7{α:Type}:∀(r l:List α) (k:Nat),k+r.length<=l.length->l.length<=top->Tr.fill r k (Tr.fill l 0 .nil)=Tr.fill (ij l k r) 0 .nil
 |[],_,_,_,_=>rfl
 |x::r,l,k,h,ht=>by simp only[List.length_cons] at h;show Tr.fill r (k+1) ((Tr.fill l 0 .nil).put k<|some x)=Tr.fill (ij (l.set k x) (k+1) r) 0 .nil;have:=S6 (x:=x) l 0 k .nil aj aj;rw[Nat.zero_add] at this;rw[this];exact S7 r (l.set k x) (k+1) (by rw[List.length_set];omega) (by rw[List.length_set];exact ht)
theorem NM{α:Type}:∀(r l:List α) (k i:Nat),k+r.length<=l.length->(ij l k r)[i]? =if k<=i/\i<k+r.length then r[i - k]? else l[i]?
 |[],l,k,i,_=>by show l[i]? =_;simp;intro h1 h2;omega
 |x::r,l,k,i,h=>by
  simp only[List.length_cons] at h ⊢;show(ij (l.set k x) (k+1) r)[i]? =_;rw[NM r (l.set k x) (k+1) i (by rw[List.length_set];omega)];by_cases e:i=k
  ·subst e;rw[if_neg aj,if_pos aj,Nat.sub_self,List.getElem?_set];simp;omega
  ·by_cases q:k+1<=i/\i<k+1+r.length
   ·rw[if_pos q,if_pos aj];obtain⟨j,rfl⟩:∃j,i=k+1+j:=⟨i - (k+1),by omega⟩;rw[show k+1+j - (k+1)=j by omega,show k+1+j - k=j+1 by omega];simp
   ·rw[if_neg q,if_neg aj,List.getElem?_set_ne aj]
theorem AN{K:Nat}{β:Type}:∀{L:List<|List β} {i j:Nat},(∀c∈L,c.length=K)->i<L.length->j<K->∀{c:List β},L[i]? =some c->L.flatten[i*K+j]? =c[j]?
 |[],_,_,_,h,_,_,_=>by simp at h
 |x::L,0,j,hL,_,hj,c,hc=>by simp at hc;subst hc;have hx:=hL x List.mem_cons_self;rw[List.flatten_cons,Nat.zero_mul,Nat.zero_add,List.getElem?_append_left aj]
 |x::L,i+1,j,hL,hi,hj,c,hc=>by have hx:=hL x List.mem_cons_self;rw[List.flatten_cons,List.getElem?_append_right (by rw[hx,Nat.add_mul];omega),hx,show(i+1)*K+j - K=i*K+j by rw[Nat.add_mul];omega];exact AN (fun c hc=>hL c<|List.mem_cons_of_mem _ hc) (by simpa using hi) hj (by simpa using hc)
theorem abY(he:∀x,(enc x).length=K){r:List AV}(hc:l[i]? =some c)(hr:enc c'=ij (enc c) j r)(hj:j+r.length<=K):ij (l.map enc).flatten (i*K+j) r=((l.set i c').map enc).flatten:=by
 have hi:=(List.getElem?_eq_some_iff.1 hc).1;have dL:∀(l:List α),∀c∈l.map enc,c.length=K:=fun l c hc=>by obtain⟨x,_,rfl⟩:=List.mem_map.1 hc;exact he x
 have yq:∀l:List α,(l.map enc).flatten.length=l.length*K:=fun l=>by rw[uK<|dL l,List.length_map]
 have hmul:i*K+K<=l.length*K:=by have:=Nat.mul_le_mul_right K hi;rw[Nat.succ_mul] at this;exact this
 apply List.ext_getElem?;intro m;rw[NM _ _ _ _ (by rw[yq];omega)];by_cases hm:m<l.length*K
 ·have hK:0<K:=by
   cases K with
   |zero=>simp at hm
   |succ k=>omega
  have hq:m / K<l.length:=by rw[Nat.div_lt_iff_lt_mul hK];exact hm
  have En:m=m / K*K+m % K:=by rw[Nat.mul_comm];exact(Nat.div_add_mod m K).symm
  have Gq:m % K<K:=Nat.mod_lt _ hK;have hold:(l.map enc).flatten[m]? =(enc<|l[m / K]'hq)[m % K]? :=by
   conv=>lhs;rw[En]
   exact AN (dL l) (by rw[List.length_map];exact hq) Gq (by rw[List.getElem?_map,List.getElem?_eq_getElem hq];rfl)
  have eg:m / K<(l.set i c').length:=by rw[List.length_set];exact hq
  have vM:((l.set i c').map enc).flatten[m]? =(enc<|(l.set i c')[m / K]'eg)[m % K]? :=by
   conv=>lhs;rw[En]
   exact AN (dL _) (by rw[List.length_map];exact eg) Gq (by rw[List.getElem?_map,List.getElem?_eq_getElem eg];rfl)
  rw[vM,hold];by_cases e:m / K=i
  ·have hci:l[m / K]'hq=c:=by
    have:l[m / K]? =some c:=by rw[e];exact hc
    rw[List.getElem?_eq_getElem hq] at this;injection this
   have qM:(l.set i c')[m / K]'eg=c':=by simp[e]
   rw[qM,hci,hr,NM _ _ _ _ (by rw[he];exact hj)];have al0:m=i*K+m % K:=by rw[e] at En;exact En
   by_cases q:j<=m % K/\m % K<j+r.length
   ·rw[if_pos aj,if_pos q];congr 1;omega
   ·rw[if_neg (by intro q2;apply q;omega),if_neg q]
  ·have qM:(l.set i c')[m / K]'eg=l[m / K]'hq:=by rw[List.getElem_set_ne fun e2=>e e2.symm]
   rw[qM,if_neg];intro q;apply e;have h1:m<(i+1)*K:=by rw[Nat.add_mul];omega
   have h2:i*K<=m:=by omega
   have h3:=(Nat.le_div_iff_mul_le hK).2 h2;have h4:=(Nat.div_lt_iff_lt_mul hK).2 h1;omega
 ·rw[if_neg aj,List.getElem?_eq_none (by rw[yq];omega),List.getElem?_eq_none (by rw[yq,List.length_set];omega)]
noncomputable section
def aV(n:Nat)(s:AS):AS:= @Bool.rec (fun _=>AS) s ⟨s.h,s.nx,s.mark,n::s.rd,s.wr⟩<|Nat.blt n s.mark
def fp(n:Nat)(o:Option ae)(s:AS):AS:= @Bool.rec (fun _=>AS) ⟨s.h.put n o,s.nx,s.mark,s.rd,s.wr⟩ ⟨s.h.put n o,s.nx,s.mark,n::s.rd,n::s.wr⟩<|Nat.blt n s.mark
end
section
variable {P:Program} {s:AS} {YR:aJ} {t:Tr AV}
theorem lR{o:ae}(h1:Nat.blt n s.nx=true)(h2:s.h.get n=some o):bu n s= .ok o (aV n s):=by obtain⟨hh,nx,mark,rd,wr⟩:=s;have e1:Nat.blt n nx=true:=h1;have e2:hh.get n=some o:=h2;show @Bool.rec (fun _=>R ae) .bad (@Option.rec ae (fun _=>R ae) .bad (fun o=> @Bool.rec (fun _=>R ae) (.ok o ⟨hh,nx,mark,rd,wr⟩) (.ok o ⟨hh,nx,mark,n::rd,wr⟩)<|Nat.blt n mark)<|hh.get n) (Nat.blt n nx)=_;rw[e1,e2];show @Bool.rec (fun _=>R ae) (.ok o ⟨hh,nx,mark,rd,wr⟩) (.ok o ⟨hh,nx,mark,n::rd,wr⟩) (Nat.blt n mark)= .ok o (@Bool.rec (fun _=>AS) ⟨hh,nx,mark,rd,wr⟩ ⟨hh,nx,mark,n::rd,wr⟩<|Nat.blt n mark);cases Nat.blt n mark<;>rfl
theorem fN(n:Nat)(s:AS):(aV n s).h=s.h/\(aV n s).nx=s.nx/\(aV n s).mark=s.mark:=by unfold aV;cases Nat.blt n s.mark<;>exact⟨rfl,rfl,rfl⟩
theorem wY{o:Option ae}{p:ae}(h1:Nat.blt n s.nx=true)(h2:s.h.get n=some p)(h3:p.dk=false)(ht:Nat.blt n top=true):bK n o s= .ok () (fp n o s):=by obtain⟨hh,nx,mark,rd,wr⟩:=s;have e1:(Nat.blt n nx&&Nat.blt n top)=true:=and_true.2 ⟨h1,ht⟩;have e2:hh.get n=some p:=h2;show @Bool.rec (fun _=>R Unit) .bad (@Option.rec ae (fun _=>R Unit) .bad (fun p=> @Bool.rec (fun _=>R Unit) (@Bool.rec (fun _=>R Unit) (.ok () ⟨hh.put n o,nx,mark,rd,wr⟩) (.ok () ⟨hh.put n o,nx,mark,n::rd,n::wr⟩)<|Nat.blt n mark) .bad p.dk)<|hh.get n) (Nat.blt n nx&&Nat.blt n top)=_;rw[e1,e2];show @Bool.rec (fun _=>R Unit) (@Bool.rec (fun _=>R Unit) (.ok () ⟨hh.put n o,nx,mark,rd,wr⟩) (.ok () ⟨hh.put n o,nx,mark,n::rd,n::wr⟩)<|Nat.blt n mark) .bad p.dk=_;rw[h3];show @Bool.rec (fun _=>R Unit) (.ok () ⟨hh.put n o,nx,mark,rd,wr⟩) (.ok () ⟨hh.put n o,nx,mark,n::rd,n::wr⟩) (Nat.blt n mark)= .ok () (@Bool.rec (fun _=>AS) ⟨hh.put n o,nx,mark,rd,wr⟩ ⟨hh.put n o,nx,mark,n::rd,n::wr⟩<|Nat.blt n mark);cases Nat.blt n mark<;>rfl
theorem yO(he:∀x,(enc x).length=K)(l:List α):(l.map enc).flatten.length=l.length*K:=by rw[uK (K:=K) (fun c hc=>by obtain⟨x,_,rfl⟩:=List.mem_map.1 hc;exact he x),List.length_map]
theorem UD(he:∀x,(enc x).length=K){k:Nat}(hc:l[i]? =some c)(hj:j+k<=K):i*K+j+k<=(l.map enc).flatten.length/\((l.map enc).flatten.drop<|i*K+j).take k=((enc c).drop j).take k:=by
 have hi:=(List.getElem?_eq_some_iff.1 hc).1;have hmul:i*K+K<=l.length*K:=by have:=Nat.mul_le_mul_right K hi;rw[Nat.succ_mul] at this;exact this
 refine⟨by rw[yO he];omega,?_⟩;apply List.ext_getElem?;intro m;rw[List.getElem?_take,List.getElem?_take];split
 ·rename_i hm;rw[List.getElem?_drop,List.getElem?_drop,Nat.add_assoc];exact AN (fun c hc=>by obtain⟨x,_,rfl⟩:=List.mem_map.1 hc;exact he x) (by rw[List.length_map];exact hi) aj (by rw[List.getElem?_map,hc];rfl)
 ·rfl
theorem TN(h:l[i]? =some c):(l.set i c')[i]? =some c':=by have hi:=(List.getElem?_eq_some_iff.1 h).1;rw[List.getElem?_set_self hi]
end
end Go.Rn
namespace Go.Rn
open Go.RowKit
def TO(W:World):Ren:=fun k=>if k<fL then some (k,match W.heap[k]? with|some (.cells c _ _)=>c.size|_=>0) else none
end Go.Rn
namespace Go.Rn
variable {ops:Array Oper}
def aeO(ops:Array Oper):Bool:=ops.toList.zipIdx.all fun x=>x.1.after.toList.all fun e=> !Region.binds .any e||decide (e.on<x.2)
def O9(ops:Array Oper)(x y:Oper):Bool:=
 match x.dst with
 |none=>false
 |some d=>(y.looksAt ops).contains d||y.dst == some d
def aeP(ops:Array Oper)(b:Array Nat):Bool:=ops.toList.zipIdx.all fun x=>ops.toList.zipIdx.all fun y=> !(O9 ops x.1 y.1)||(Nat.beq x.2 y.2|| !loose b x.2 y.2)
def PJ(ops:Array Oper):Bool:=aeO ops&&aeP ops (CheckFast.beforeF ops)
def sQ:Code->Bool
 | .seq a b=>sQ a&&sQ b
 | .cond _ a b=>sQ a&&sQ b
 | .block _ b=>sQ b
 | .loop b=>sQ b
 | .scope b=>sQ b
 | .region _ ops draw=> !draw||PJ ops
 | .rangeFunc _ _ a b=>sQ a&&sQ b
 |_=>true
def agd(P:Program):Bool:=P.funcs.toList.all fun fn=>match fn.body with
 |none=>true
 |some c=>sQ c
theorem Mf{i:Nat}{o:Oper}(h:ops[i]? =some o):(o,i)∈ops.toList.zipIdx:=by rw[List.mem_zipIdx_iff_getElem?];simpa using h
theorem adb(h:PJ ops=true):JJ ops:=by
 unfold PJ at h;obtain⟨h1,h2⟩:=Bool.and_eq_true_iff.1 h;rw[CheckFast.beforeF_eq] at h2;refine⟨fun j o e ho hm hb=>?_,fun i j x y d lI hx hy hd cS=>?_⟩
 ·have:=List.all_eq_true.1 (List.all_eq_true.1 h1 _<|Mf ho) e<|Array.mem_toList_iff.2 hm;simp only[hb,Bool.not_true,Bool.false_or,decide_eq_true_eq] at this;exact this
 ·have:=List.all_eq_true.1 (List.all_eq_true.1 h2 _<|Mf hx) _<|Mf hy;have hc:O9 ops x y=true:=by
   unfold O9;rw[hd];simp only[Bool.or_eq_true,beq_iff_eq];rcases cS with q|q
   ·exact .inl<|List.contains_iff_mem.2 q
   ·exact .inr q
  simp only[hc,Bool.not_true,Bool.false_or,Bool.or_eq_true,Bool.not_eq_true'] at this;rcases this with q|q
  ·exact absurd (Nat.beq_eq.mp q) lI
  ·exact q
theorem Z4:∀{c:Code},sQ c=true->iw c:=by
 intro c;induction c with
 |seq a b BN BO=>intro h;obtain⟨h1,h2⟩:=Bool.and_eq_true_iff.1 h;exact⟨BN h1,BO h2⟩
 |cond _ a b BN BO=>intro h;obtain⟨h1,h2⟩:=Bool.and_eq_true_iff.1 h;exact⟨BN h1,BO h2⟩
 |block _ b ih=>intro h;exact ih h
 |loop b ih=>intro h;exact ih h
 |scope b ih=>intro h;exact ih h
 |region id ops draw=>intro h hd;subst hd;exact adb h
 |rangeFunc _ _ a b BN BO=>intro h;obtain⟨h1,h2⟩:=Bool.and_eq_true_iff.1 h;exact⟨BN h1,BO h2⟩
 |_=>intro _;trivial
theorem alx{P:Program}(hm:P.follows .mixedOrders=true)(h:agd P=true):bS P:=by refine⟨hm,fun f fn body hf hb=>?_⟩;have:=List.all_eq_true.1 h fn (List.mem_of_getElem?<|by simpa using hf);rw[hb] at this;exact Z4 this
end Go.Rn
namespace Go.Rn
open Go.RowKit
noncomputable section
end
end Go.Rn
namespace Go.Rn
open Go.RowKit
noncomputable section
end
section
variable {P:Program} {s s1:AS} {YR:aJ} {t:Tr AV}
end
end Go.Rn
namespace Go.Rn
end Go.Rn
namespace Go.Rn
open Go.RowKit
variable {ρ σ:Ren} {x:AV} {v:Value}
theorem ade(k:IntKind)(lo hi:Int)(n:Int)(h:lo<=n/\n<=hi)(hk:(k.signed=true/\lo= -(2 ^ (k.bits - 1):Int)/\hi=(2 ^ (k.bits - 1):Int) - 1/\(2 ^ k.bits:Int)=2*(2 ^ (k.bits - 1):Int)/\(0:Int)<(2 ^ (k.bits - 1):Int))\/(k.signed=false/\lo=0/\hi=(2 ^ k.bits:Int) - 1)):IntKind.wrap k n=n:=by
 unfold IntKind.wrap;rcases hk with⟨hs,h1,h2,h3,h4⟩|⟨hs,h1,h2⟩
 ·simp only[hs,Bool.true_and,decide_eq_true_eq];subst h1;subst h2;rw[h3];generalize (2 ^ (k.bits - 1):Int)=p at*;by_cases q:0<=n
  ·have:n % (2*p)=n:=Int.emod_eq_of_lt q aj;rw[this,if_neg aj]
  ·have:n % (2*p)=n+2*p:=by rw[←Int.add_emod_right,Int.emod_eq_of_lt aj aj]
   rw[this,if_pos aj];omega
 ·simp only[hs,Bool.false_and];subst h1;subst h2;have:n % (2 ^ k.bits:Int)=n:=Int.emod_eq_of_lt h.1 aj;simp[this]
theorem EO{n:Int}(h: -9223372036854775808<=n/\n<=9223372036854775807):IntKind.wrap .i64 n=n:=ade .i64 _ _ n h<|.inl ⟨rfl,by decide,by decide,by decide,by decide⟩
section
variable {P:Program} {s s1:AS} {YR:aJ} {t:Tr AV}
end
def AV.cP(x:AV):Bool:=match x with
 | .U n _ _=>Nat.ble top n
 |x=>x.flat
def AV.jL(x:AV):Bool:=match x with
 | .agg l=>l.all AV.cP
 |x=>x.cP
def AV.hi(x:AV):Bool:=match x with
 | .agg l=>l.all AV.cP
 | .tuple l=>l.all AV.jL
 |x=>x.cP
def jl(ρ σ:Ren):Prop:=∀k x,top<=k->ρ k=some x->σ k=some x
theorem qw.hi(h:jl ρ σ){n b sh:Nat}(ht:top<=n)(k:qw ρ n b sh):qw σ n b sh:=.inr ⟨ht,fun e=>k.high ht (by
 cases q:ρ (hn n b sh) with
 |none=>rfl
 |some x=>rw[h _ _ (gf _ _ _) q] at e;cases e)⟩
theorem VR.flat(h:x.flat=true)(k:VR ρ x v):VR σ x v:=by
 cases x<;>first|(simp only[VR] at k ⊢;exact k)|(cases h;done)|skip
 case slice a len cap=>cases a with
  |some _=>cases h
  |none=>cases cap with
   |known c=>simp only[VR] at k ⊢;exact k
   |aq _ _=>cases h
   |lost=>cases h
 all_goals
  rename_i a;cases a with
  |none=>simp only[VR] at k ⊢;exact k
  |some _=>cases h
theorem AV.u7(jv:jl ρ σ)(h:x.cP=true)(k:VR ρ x v):VR σ x v:=by
 unfold AV.cP at h;split at h
 ·have ht:=aK.1 h;simp only[VR] at k ⊢;exact k.imp id fun⟨b,sh,c,q1,q2⟩=>⟨b,sh,c,q1.hi jv ht,q2⟩
 ·exact VR.flat h k
theorem AV.NN(jv:jl ρ σ):∀{l:List AV} {vs:List Value},l.all AV.cP=true->ay ρ l vs->ay σ l vs
 |[],_,_,hv=>by simpa only[ay] using hv
 |y::l,vs,hy,hv=>by obtain⟨h1,h2⟩:=and_true.1 (show(y.cP&&l.all AV.cP)=true from hy);simp only[ay] at hv ⊢;obtain⟨a,as,e,h3,h4⟩:=hv;exact⟨a,as,e,AV.u7 jv h1 h3,AV.NN jv h2 h4⟩
theorem AV.aeQ(jv:jl ρ σ)(h:x.jL=true)(k:VR ρ x v):VR σ x v:=by
 unfold AV.jL at h;split at h
 ·simp only[VR] at k ⊢;obtain⟨a,e,q⟩:=k;exact⟨a,e,AV.NN jv h q⟩
 ·exact AV.u7 jv h k
theorem AV.UE(jv:jl ρ σ):∀{l:List AV} {vs:List Value},l.all AV.jL=true->ay ρ l vs->ay σ l vs
 |[],_,_,hv=>by simpa only[ay] using hv
 |y::l,vs,hy,hv=>by obtain⟨h1,h2⟩:=and_true.1 (show(y.jL&&l.all AV.jL)=true from hy);simp only[ay] at hv ⊢;obtain⟨a,as,e,h3,h4⟩:=hv;exact⟨a,as,e,AV.aeQ jv h1 h3,AV.UE jv h2 h4⟩
theorem AV.pB(jv:jl ρ σ)(h:x.hi=true)(k:VR ρ x v):VR σ x v:=by
 unfold AV.hi at h;split at h
 ·simp only[VR] at k ⊢;obtain⟨a,e,q⟩:=k;exact⟨a,e,AV.NN jv h q⟩
 ·simp only[VR] at k ⊢;obtain⟨a,e,q⟩:=k;exact⟨a,e,AV.UE jv h q⟩
 ·exact AV.u7 jv h k
theorem AV.Ba(jv:jl ρ σ):∀{l:List AV} {vs:List Value},l.all AV.hi=true->ay ρ l vs->ay σ l vs
 |[],_,_,hv=>by simpa only[ay] using hv
 |y::l,vs,hy,hv=>by obtain⟨h1,h2⟩:=and_true.1 (show(y.hi&&l.all AV.hi)=true from hy);simp only[ay] at hv ⊢;obtain⟨a,as,e,h3,h4⟩:=hv;exact⟨a,as,e,AV.pB jv h1 h3,AV.Ba jv h2 h4⟩
theorem aeR:jl ρ<|gp ρ:=fun k x hk e=>by unfold gp;rw[if_pos hk];exact e
end Go.Rn
namespace Go.Rn
open Go.RowKit
def oQ(sp:Sp)(g:FuncId)(m:aJ->List AV->M AV):Sp:=fun f=>bif Nat.beq f g then some m else sp f
theorem Sr{sp:Sp}{g:FuncId}{m m':aJ->List AV->M AV}{f:FuncId}(h:oQ sp g m f=some m'):(f=g/\m'=m)\/sp f=some m':=by
 unfold oQ at h;cases e:Nat.beq f g with
 |true=>rw[e] at h;injection h with h;exact .inl ⟨Nat.eq_of_beq_eq_true e,h.symm⟩
 |false=>rw[e] at h;exact .inr h
end Go.Rn
namespace Go.Rn
end Go.Rn

namespace Go.Rn
open Go.RowKit
noncomputable section
def dC(J:Nat)(h0:Tr ae)(ns:List Nat)(s:AS):AS:=match fI J h0 ns s with| .ok _ s1=>s1| .bad=>s
def pM(J:Nat)(h0:Tr ae)(ns:List Nat)(s:AS):Bool:=match fI J h0 ns s with| .ok _ _=>true| .bad=>false
end
theorem xp{J:Nat}{h0:Tr ae}{ns:List Nat}{s:AS}(h:pM J h0 ns s=true):fI J h0 ns s= .ok () (dC J h0 ns s):=by
 unfold pM at h;unfold dC;cases e:fI J h0 ns s with
 |bad=>rw[e] at h;cases h
 |ok u s1=>rfl
section
variable {P:Program} {s s1:AS} {YR:aJ} {t:Tr AV}
end
def Pa(n:Int):Prop:= -9223372036854775808<=n/\n<=9223372036854775807
instance (n:Int):Decidable<|Pa n:=by unfold Pa;infer_instance
end Go.Rn
namespace Go.Rn
open Go.RowKit
variable {va:Bool} {rs ps:Array TypeId} {e:TypeId} {P:Program}
def II(P:Program):DataW (List UInt8)->Option FuncId->Bool
 | .nil,none=>true
 | .held (b::r),some f=>(List.range P.funcs.size).filter (fun f=>(P.funcs[f]?).any (·.name.toUTF8.data.toList == b::r)) == [f]
 |_,_=>false
def AO(P:Program):List (DataW<|List UInt8)->List (Option FuncId)->Bool
 |[],[]=>true
 |d::ds,f::fs=>II P d f&&AO P ds fs
 |_,_=>false
def age(P:Program)(d:DataW<|List UInt8)(fs:List<|Option FuncId):Bool:=
 match d with
 | .agg ds=>AO P ds fs
 |_=>false
def IJ:Option FuncId->AV
 |none=>.nilFunc
 |some f=>.func (.func f) [] []
def C4:Option FuncId->Value
 |none=>.nilFunc
 |some f=>.func (.func f) #[] #[]
theorem aly(ρ:Ren)(f:Option FuncId):VR ρ (IJ f)<|C4 f:=by
 cases f with
 |none=>simp only[IJ,C4,VR]
 |some f=>simp only[IJ,C4,VR,ay];exact⟨rfl,_,_,rfl,rfl,rfl⟩
theorem TP{α β:Type}{f:α->Option β}:∀{l:List α} {r:List β},l.mapM f=some r->l.length=r.length/\∀(i:Nat) (x:α),l[i]? =some x->∃y,r[i]? =some y/\f x=some y
 |[],r,h=>by simp at h;subst h;exact⟨rfl,fun i x hx=>by simp at hx⟩
 |a::l,r,h=>by
  rw[List.mapM_cons] at h;cases e:f a with
  |none=>simp[e] at h
  |some b=>
   cases e2:l.mapM f with
   |none=>simp[e,e2] at h
   |some bs=>
    simp[e,e2] at h;subst h;obtain⟨h1,h2⟩:=TP e2;refine⟨by simp[h1],fun i x hx=>?_⟩;cases i with
    |zero=>simp at hx;subst hx;exact⟨b,rfl,e⟩
    |succ i=>simp at hx;obtain⟨y,h3,h4⟩:=h2 i x hx;exact⟨y,by simpa using h3,h4⟩
theorem Za{w:World}{fuel:Nat}{v:Value}{d:DataW<|List UInt8}{q:List MemPlace}{f:Option FuncId}(he:P.underlying e=some (.func ps rs va))(h:DataW.trod (funcToken P) P w 0 (fun _=>true) true fuel e [v]=some (d,q))(hk:II P d f=true):v=C4 f:=by
 unfold II at hk;split at hk
 ·cases fuel with
  |zero=>simp[DataW.trod] at h
  |succ n=>cases v<;>simp[DataW.trod,he] at h;rfl
 ·exact func_of_trod he (by simpa using hk) h
 ·cases hk
theorem R5{P:Program}:∀{ds:List<|DataW<|List UInt8} {fs:List<|Option FuncId},AO P ds fs=true->ds.length=fs.length/\∀(i:Nat) d f,ds[i]? =some d->fs[i]? =some f->II P d f=true
 |[],[],_=>⟨rfl,fun i d f h=>by simp at h⟩
 |[],_::_,h=>by simp[AO] at h
 |_::_,[],h=>by simp[AO] at h
 |d::ds,f::fs,h=>by
  simp only[AO,Bool.and_eq_true] at h;obtain⟨h1,h2⟩:=R5 h.2;refine⟨by simp[h1],fun i a b ha hb=>?_⟩;cases i with
  |zero=>simp at ha hb;subst ha;subst hb;exact h.1
  |succ i=>simp at ha hb;exact h2 i a b ha hb
theorem alu{W:World}{name:String}{d:DataW Unit}{g:Nat}{t:TypeId}{n:Nat}{fs:List<|Option FuncId}(h:funcsAt P W name d)(hg:P.globalNamed name=some g)(hty:(P.globals[g]?).map (·.type)=some t)(ht:P.underlying t=some (.array n e))(he:P.underlying e=some (.func ps rs va))(hc:P.cellsOf e=1)(hct:P.cellsOf t=n)(hd:age P d.funcsOut fs=true):
 ∃c ty fr,W.heap[g]? =some (.cells c ty fr)/\fs.length=c.size/\∀(i:Nat) f,fs[i]? =some f->c[i]? =some (C4 f):=by
 obtain⟨g',t',cs,fuel,p,h1,h2,h3,h4⟩:=h;obtain rfl:g=g':=Option.some.inj<|hg.symm.trans h1;obtain rfl:t=t':=Option.some.inj<|hty.symm.trans h2;have mH:∃ty fr,W.heap[g]? =some (.cells cs ty fr):=by
  unfold World.var? at h3;rw[hg] at h3;simp only[Option.bind_some] at h3;split at h3
  ·rename_i c ty fr e;injection h3 with h3;subst h3;exact⟨ty,fr,e⟩
  ·cases h3
 obtain⟨ty,fr,mH⟩:=mH;cases fuel with
 |zero=>simp[DataW.trod] at h4
 |succ m=>
  rw[DataW.trod_step] at h4;unfold DataW.trodStep at h4;simp only[ht,hc,Nat.mul_one] at h4;split at h4
  ·rename_i hlen;rw[Option.map_eq_some_iff] at h4;obtain⟨xs,h5,h6⟩:=h4;obtain⟨h7,h8⟩:=TP h5;have ahS:d.funcsOut= .agg (xs.map (·.1)):=by injection h6 with h6 _;exact h6.symm
   rw[ahS] at hd;obtain⟨h9,gG⟩:=R5 (show AO P (xs.map (·.1)) fs=true from hd);have hxl:xs.length=fs.length:=by simpa using h9
   have get:∀(i:Nat) f,fs[i]? =some f->cs[i]? =some (C4 f):=by
    intro i f hf;have hi:i<fs.length:=(List.getElem?_eq_some_iff.1 hf).1;obtain⟨y,uo,qK⟩:=h8 i i (by rw[List.getElem?_range (by simp at h7;omega)]);obtain⟨v,hv⟩:∃v,(cs.toList.drop i).take 1=[v]:=by
     cases hq:(cs.toList.drop i).take 1 with
     |nil=>
      rw[hq] at qK;cases m with
      |zero=>simp[DataW.trod] at qK
      |succ k=>simp[DataW.trod,he] at qK
     |cons v l=>
      have:((cs.toList.drop i).take 1).length<=1:=List.length_take_le _ _;rw[hq] at this;cases l with
      |nil=>exact⟨v,rfl⟩
      |cons=>simp at this
    rw[hv] at qK;have Gn:=Za (f:=f) (d:=y.1) (q:=y.2) he qK<|gG i y.1 f (by rw[List.getElem?_map,uo];rfl) hf;have:(cs.toList.drop i)[0]? =some v:=by
     have:((cs.toList.drop i).take 1)[0]? =some v:=by rw[hv];rfl
     rw[List.getElem?_take_of_lt aj] at this;exact this
    rw[List.getElem?_drop,Nat.add_zero,Array.getElem?_toList] at this;rw[this,Gn]
   refine⟨cs,ty,fr,mH,?_,get⟩;have Wh:=hlen;rw[hct] at Wh;simp at Wh h7;omega
  ·cases h4
theorem abZ(l:List AV)(hl:l.length<=top)(i:Nat)(hi:i<l.length):(Tr.fill l 0 .nil).get i=l[i]? :=by rw[Tr.sH _ _ _ _ aj,if_pos aj];simp
end Go.Rn
namespace Go.Rn
open Go.RowKit
noncomputable section
end
end Go.Rn
namespace Go.Rn
open Go.RowKit
noncomputable section
end
section
variable {P:Program} {B:aI} {J:Nat} {s s1:AS} {YR:aJ} {t:Tr AV} {ops:Array Oper} {f nt i:Nat} {K:List Item} {G:AF->AS->Prop} {acc:List Met} {rs:List ResultVar} {v v':AV}
end
section
variable {P:Program} {s s1:AS} {YR:aJ} {t:Tr AV}
end
noncomputable section
end
section
variable {P:Program} {F:Nat->Option (List AV)} {sp:Sp} {g n k:Nat} {ad:Option<|Nat×Nat} {cp:bZ} {s:AS} {l:List AV} {a b c d:ByteArray} {n1 n2 n3 n4:Nat}
end
end Go.Rn
namespace Go.Rn
open Go.RowKit
noncomputable section
end
end Go.Rn
namespace Go.Rn
end Go.Rn
namespace Go.Rn
open Go.RowKit
variable {n:Nat} {α:Type} {y x:Operand} {ty e:TypeId} {ts:Array TypeId} {l:List α} {i:TypeInfo} {enc:α->List AV}
section
variable {P:Program} {s:AS} {YR:aJ} {t:Tr AV}
theorem Cu{off k:Nat}{l:List AV}(h1:Nat.blt n s.nx=true)(h2:s.h.get n=some (.cells l.length (Tr.fill l 0 .nil) []))(hl:l.length<=top)(XL:0<k)(hk:off+k<=l.length):jc n off k s= .ok ((l.drop off).take k) (aV n s):=by
 cases k with
 |zero=>omega
 |succ k=>
  show((bu n).bind fun o=>match o with
   | .cells m t z=>aF (Nat.ble (off+(k+1)) m) <| lift (lS t z (k+1) off)
   | .ro m t=>aF (Nat.ble (off+(k+1)) m) <| lift (lS t [] (k+1) off)
   |_=>fail) s=_
  rw[M.bL<|lR h1 h2];show aF (Nat.ble (off+(k+1)) l.length) (lift<|lS (Tr.fill l 0 .nil) [] (k+1) off) (aV n s)=_;rw[aK.2 hk,dA,L6 hl _ _ hk];rfl
theorem aeS{L:List α}{len:Nat}{cap:bZ}{n0 o0 k0:Nat}(hx:aG t x=some (.slice (some (n,0)) len cap))(hlen:len=l.length)(hy:aG t y=some (.U n0 o0 k0))(h0:ts[0]? =some ty)(hu:P.underlying ty=some (.slice e))(hi:P.info? e=some i)(hz:and (sK i) (pt P ts[1]?)=true)(fP:O0 i.size len cap=true)(dM:top<=n0)(eU:∀s,YR (.row n0 o0<|k0*i.size) [] s= .ok (.agg (L.map enc).flatten) s)(hk:k0=L.length)(hn:s.h.get n=some (aD enc l))(cO:(Nat.blt n s.nx&&Nat.blt s.nx top)=true)(xZ:∀x:α,(enc x).length=i.size/\(enc x).all AV.bR=true)(hb:Nat.beq i.bytes 0=false)(tD:2*(l.length+L.length)*i.bytes+4096*i.bytes<=room)(ku:(l.length+L.length)*i.size<=top):
 ∃rd wr,(∀k∈rd,k=n\/k∈s.rd)/\(∀k∈wr,k=n\/k∈s.wr)/\(s.mark=0->rd=s.rd/\wr=s.wr)/\(dI P<|.call ⟨.builtin .append, #[x,y],ts⟩).val YR t s= .ok (.slice (some (s.nx,0)) (l++L).length<|.aq (l++L).length i.size) ⟨(s.h.put n none).put s.nx<|some<|aD enc<|l++L,s.nx+1,s.mark,rd,wr⟩:=by
 subst hlen;subst hk;obtain⟨fw,B5⟩:=and_true.1 cO;have ahT:=(blt_eq _ _).mp fw;have Bz:=(blt_eq _ _).mp B5;have oC:∀l:List α,(l.map enc).flatten.length=l.length*i.size:=fun l=>by
  have:=uK (K:=i.size) (l:=l.map enc) fun c hc=>by obtain⟨a,_,rfl⟩:=List.mem_map.1 hc;exact(xZ a).1
  rw[this,List.length_map]
 have vK:∀l:List α,(l.map enc).flatten.all AV.bR=true:=by
  intro l;induction l with
  |nil=>rfl
  |cons x l ih=>simp only[List.map_cons,List.flatten_cons,List.all_append,ih,(xZ x).2,Bool.and_true]
 have cf:(l.map enc).flatten.length<=top:=by rw[oC];have:=Nat.mul_le_mul_right i.size (show l.length<=l.length+L.length by omega);omega
 have Pb:∃rd,(∀k∈rd,k=n\/k∈s.rd)/\(s.mark=0->rd=s.rd)/\jc n 0 (l.length*i.size) s= .ok (l.map enc).flatten ⟨s.h,s.nx,s.mark,rd,s.wr⟩:=by
  cases hk:l.length*i.size with
  |zero=>have:(l.map enc).flatten=[]:=List.eq_nil_of_length_eq_zero (by rw[oC,hk]);rw[this];exact⟨s.rd,fun k h=>.inr h,fun _=>rfl,rfl⟩
  |succ k=>
   have hr:=Cu (n:=n) (off:=0) (k:=k+1) (l:=(l.map enc).flatten) (s:=s) fw hn cf (Nat.succ_pos _) (by rw[oC,hk];omega);rw[List.drop_zero, ←hk, ←oC,List.take_length] at hr;rw[←hk, ←oC];refine⟨(aV n s).rd,?_,fun hm=>?_,?_⟩
   ·intro k h;unfold aV at h;cases q:Nat.blt n s.mark with
    |false=>rw[q] at h;exact .inr h
    |true=>rw[q] at h;rcases List.mem_cons.1 h with h|h;exact .inl h;exact .inr h
   ·unfold aV;rw[hm,show Nat.blt n 0=false from by cases q:Nat.blt n 0 with|false=>rfl|true=>have:=(blt_eq _ _).mp q;omega]
   ·rw[hr];congr 1;unfold aV;cases Nat.blt n s.mark<;>rfl
 obtain⟨gq,a1,a2,a3⟩:=Pb;have pK:∃rd wr,(∀k∈rd,k=n\/k∈s.rd)/\(∀k∈wr,k=n\/k∈s.wr)/\(s.mark=0->rd=s.rd/\wr=s.wr)/\
  ((bu n).bind fun ob=>aF ob.yP <| (bK n none).bind fun _=>grown i.size i.bytes (l.length+L.length) (l.map enc).flatten (L.map enc).flatten) ⟨s.h,s.nx,s.mark,gq,s.wr⟩= .ok (.slice (some (s.nx,0)) (l.length+L.length)<|.aq (l.length+L.length) i.size) ⟨(s.h.put n none).put s.nx<|some<|aD enc<|l++L,s.nx+1,s.mark,rd,wr⟩:=by
  rw[M.bL<|lR (s:=⟨s.h,s.nx,s.mark,gq,s.wr⟩) fw hn];rw[show(aD enc l).yP=true from rfl,dA];obtain⟨b1,b2,b3⟩:=fN n ⟨s.h,s.nx,s.mark,gq,s.wr⟩;rw[M.bL<|wY (o:=none) (p:=aD enc l) (s:=aV n ⟨s.h,s.nx,s.mark,gq,s.wr⟩) (by rw[b2];exact fw) (by rw[b1];exact hn) rfl (by rw[blt_eq];omega)];have PK:(l.map enc).flatten++(L.map enc).flatten=((l++L).map enc).flatten:=by rw[List.map_append,List.flatten_append]
  unfold grown;rw[show(and (Nat.ble (2*(l.length+L.length)*i.bytes+4096*i.bytes) room)<|not<|Nat.beq i.bytes 0)=true from and_true.2 ⟨aK.2 tD,by rw[hb];rfl⟩,dA,PK];have hw:∃rd wr,(∀k∈rd,k=n\/k∈s.rd)/\(∀k∈wr,k=n\/k∈s.wr)/\(s.mark=0->rd=s.rd/\wr=s.wr)/\fp n none (aV n ⟨s.h,s.nx,s.mark,gq,s.wr⟩)=⟨s.h.put n none,s.nx,s.mark,rd,wr⟩:=by
   unfold fp aV;cases q:Nat.blt n s.mark with
   |false=>refine⟨gq,s.wr,a1,fun k h=>.inr h,fun hm=>⟨a2 hm,rfl⟩,?_⟩;show(@Bool.rec (fun _=>AS) _ _<|Nat.blt n s.mark)=_;rw[q]
   |true=>
    refine⟨n::n::gq,n::s.wr,?_,?_,fun hm=>?_,?_⟩
    ·intro k h;rcases List.mem_cons.1 h with h|h
     ·exact .inl h
     ·rcases List.mem_cons.1 h with h|h
      ·exact .inl h
      ·exact a1 k h
    ·intro k h;rcases List.mem_cons.1 h with h|h
     ·exact .inl h
     ·exact .inr h
    ·rw[hm] at q;have:=(blt_eq _ _).mp q;omega
    ·show(@Bool.rec (fun _=>AS) _ _<|Nat.blt n s.mark)=_;rw[q]
  obtain⟨rd,wr,c1,c2,c3,c4⟩:=hw;rw[c4];refine⟨rd,wr,c1,c2,c3,?_⟩;have vM:=HV (s:=⟨s.h.put n none,s.nx,s.mark,rd,wr⟩) (l:=((l++L).map enc).flatten) (by rw[oC];simpa using ku) (vK _) Bz;exact(M.bL vM).trans rfl
 obtain⟨rd,wr,d1,d2,d3,d4⟩:=pK;refine⟨rd,wr,d1,d2,d3,?_⟩;show oi P .append ts [x,y] YR t s=_;unfold oi;have ml:jU (aG t) [x,y]=some [.slice (some (n,0)) l.length cap,.U n0 o0 L.length]:=by simp only[jU,hx,hy]
 rw[ml,bV];show AK P YR ts (.slice (some (n,0)) l.length cap) n0 o0 L.length s=_;unfold AK;rw[aK.2 dM,dA,h0,bV];simp only[hu];rw[hi,bV,hz,dA,fP,dA];have hr:sL YR n0 o0 (L.length*i.size) s= .ok (L.map enc).flatten s:=by
  rcases Nat.eq_zero_or_pos (L.length*i.size) with QC|QC
  ·rw[List.eq_nil_of_length_eq_zero<|(oC L).trans QC,QC];rfl
  rw[show sL YR n0 o0 (L.length*i.size)=(YR (.row n0 o0<|L.length*i.size) []).bind fun x=>match x with
   | .agg l=>aF (Nat.beq l.length<|L.length*i.size) <| M.pure l
   |_=>fail from by obtain⟨m,hm⟩:∃m,L.length*i.size=m+1:=⟨L.length*i.size - 1,by omega⟩;rw[hm];rfl]
  rw[M.bL<|eU s];show aF (Nat.beq (L.map enc).flatten.length<|L.length*i.size) (M.pure (L.map enc).flatten) s=_;rw[oC,eA.2 rfl,dA];rfl
 rw[M.bL hr,M.bL a3,d4];simp
theorem aeT{c:α}{m:Nat}(hx:aG t x=some (.slice (some (n,0)) l.length<|.aq l.length i.size))(hy:aG t y=some (.slice (some (m,0)) 1<|.known 1))(h0:ts[0]? =some ty)(hu:P.underlying ty=some (.slice e))(hi:P.info? e=some i)(hz:and (sK i) (pt P ts[1]?)=true)(hn:s.h.get n=some (aD enc l))(hm:s.h.get m=some (.cells (enc c).length (Tr.fill (enc c) 0 .nil) []))(cO:(Nat.blt n s.nx&&(Nat.blt m s.nx&&Nat.blt s.nx top))=true)(xZ:∀x:α,(enc x).length=i.size/\(enc x).all AV.bR=true)(DQ:0<i.size)(hb:Nat.beq i.bytes 0=false)(tD:2*(l.length+1)*i.bytes+4096*i.bytes<=room)(ku:(l.length+1)*i.size<=top):
 ∃rd wr,(∀k∈rd,k=n\/k=m\/k∈s.rd)/\(∀k∈wr,k=n\/k∈s.wr)/\(s.mark=0->rd=s.rd/\wr=s.wr)/\(dI P<|.call ⟨.builtin .append, #[x,y],ts⟩).val YR t s= .ok (.slice (some (s.nx,0)) (l++[c]).length<|.aq (l++[c]).length i.size) ⟨(s.h.put n none).put s.nx<|some<|aD enc<|l++[c],s.nx+1,s.mark,rd,wr⟩:=by
 obtain⟨fw,cO⟩:=and_true.1 cO;obtain⟨fc,B5⟩:=and_true.1 cO;have ahT:=(blt_eq _ _).mp fw;have Bz:=(blt_eq _ _).mp B5;have oC:∀l:List α,(l.map enc).flatten.length=l.length*i.size:=fun l=>by
  have:=uK (K:=i.size) (l:=l.map enc) fun c hc=>by obtain⟨a,_,rfl⟩:=List.mem_map.1 hc;exact(xZ a).1
  rw[this,List.length_map]
 have vK:∀l:List α,(l.map enc).flatten.all AV.bR=true:=by
  intro l;induction l with
  |nil=>rfl
  |cons x l ih=>simp only[List.map_cons,List.flatten_cons,List.all_append,ih,(xZ x).2,Bool.and_true]
 have WM:(l.length+1)*i.size=l.length*i.size+i.size:=by rw[Nat.add_mul,Nat.one_mul]
 have cf:(l.map enc).flatten.length<=top:=by rw[oC];omega
 have qA:∀{k q:Nat} {s':AS},k∈(aV q s').rd->k=q\/k∈s'.rd:=by
  intro k q s' h;unfold aV at h;cases z:Nat.blt q s'.mark with
  |false=>rw[z] at h;exact .inr h
  |true=>rw[z] at h;rcases List.mem_cons.1 h with h|h;exact .inl h;exact .inr h
 have lZ:∀(q:Nat) (s':AS),s'.mark=0->aV q s'=s':=by intro q s' h;unfold aV;rw[h,show Nat.blt q 0=false from by cases z:Nat.blt q 0 with|false=>rfl|true=>have:=(blt_eq _ _).mp z;omega]
 have Wi:∀(q:Nat) (s':AS),aV q s'=⟨s'.h,s'.nx,s'.mark,(aV q s').rd,s'.wr⟩:=by intro q s';unfold aV;cases Nat.blt q s'.mark<;>rfl
 have hf:firstCells i.size 1 (.slice (some (m,0)) 1<|.known 1) s= .ok (enc c) (aV m s):=by rw[LF jI,Nat.one_mul];have hr:=Cu (n:=m) (off:=0) (k:=i.size) (l:=enc c) (s:=s) fc hm (by rw[(xZ c).1];omega) DQ (by rw[(xZ c).1];omega);rw[hr,List.drop_zero, ←(xZ c).1,List.take_length]
 let s1:AS:=⟨s.h,s.nx,s.mark,(aV m s).rd,s.wr⟩;have jM:aV m s=s1:=Wi m s;have Pb:∃rd,(∀k∈rd,k=n\/k∈s1.rd)/\(s.mark=0->rd=s1.rd)/\jc n 0 (l.length*i.size) s1= .ok (l.map enc).flatten ⟨s.h,s.nx,s.mark,rd,s.wr⟩:=by
  cases hk:l.length*i.size with
  |zero=>have:(l.map enc).flatten=[]:=List.eq_nil_of_length_eq_zero (by rw[oC,hk]);rw[this];exact⟨s1.rd,fun k h=>.inr h,fun _=>rfl,rfl⟩
  |succ k=>have hr:=Cu (n:=n) (off:=0) (k:=k+1) (l:=(l.map enc).flatten) (s:=s1) fw hn cf (Nat.succ_pos _) (by rw[oC,hk];omega);rw[List.drop_zero, ←hk, ←oC,List.take_length] at hr;rw[←hk, ←oC];exact⟨(aV n s1).rd,fun k h=>qA h,fun zQ=>by rw[lZ n s1 zQ],hr.trans<|congrArg _<|Wi n s1⟩
 obtain⟨gq,a1,a2,a3⟩:=Pb;have pK:∃rd wr,(∀k∈rd,k=n\/k∈s1.rd)/\(∀k∈wr,k=n\/k∈s.wr)/\(s.mark=0->rd=s1.rd/\wr=s.wr)/\
  ((bu n).bind fun ob=>aF ob.yP <| (bK n none).bind fun _=>grown i.size i.bytes (l.length+1) (l.map enc).flatten<|enc c) ⟨s.h,s.nx,s.mark,gq,s.wr⟩= .ok (.slice (some (s.nx,0)) (l.length+1)<|.aq (l.length+1) i.size) ⟨(s.h.put n none).put s.nx<|some<|aD enc<|l++[c],s.nx+1,s.mark,rd,wr⟩:=by
  rw[M.bL<|lR (s:=⟨s.h,s.nx,s.mark,gq,s.wr⟩) fw hn];rw[show(aD enc l).yP=true from rfl,dA];obtain⟨b1,b2,b3⟩:=fN n ⟨s.h,s.nx,s.mark,gq,s.wr⟩;rw[M.bL<|wY (o:=none) (p:=aD enc l) (s:=aV n ⟨s.h,s.nx,s.mark,gq,s.wr⟩) (by rw[b2];exact fw) (by rw[b1];exact hn) rfl (by rw[blt_eq];omega)];have PK:(l.map enc).flatten++enc c=((l++[c]).map enc).flatten:=by simp
  unfold grown;rw[show(and (Nat.ble (2*(l.length+1)*i.bytes+4096*i.bytes) room)<|not<|Nat.beq i.bytes 0)=true from and_true.2 ⟨aK.2 tD,by rw[hb];rfl⟩,dA,PK];have hw:∃rd wr,(∀k∈rd,k=n\/k∈s1.rd)/\(∀k∈wr,k=n\/k∈s.wr)/\(s.mark=0->rd=s1.rd/\wr=s.wr)/\fp n none (aV n ⟨s.h,s.nx,s.mark,gq,s.wr⟩)=⟨s.h.put n none,s.nx,s.mark,rd,wr⟩:=by
   unfold fp aV;cases q:Nat.blt n s.mark with
   |false=>refine⟨gq,s.wr,a1,fun k h=>.inr h,fun hm=>⟨a2 hm,rfl⟩,?_⟩;show(@Bool.rec (fun _=>AS) _ _<|Nat.blt n s.mark)=_;rw[q]
   |true=>
    refine⟨n::n::gq,n::s.wr,?_,?_,fun hm=>?_,?_⟩
    ·intro k h;rcases List.mem_cons.1 h with h|h
     ·exact .inl h
     ·rcases List.mem_cons.1 h with h|h
      ·exact .inl h
      ·exact a1 k h
    ·intro k h;rcases List.mem_cons.1 h with h|h
     ·exact .inl h
     ·exact .inr h
    ·rw[hm] at q;have:=(blt_eq _ _).mp q;omega
    ·show(@Bool.rec (fun _=>AS) _ _<|Nat.blt n s.mark)=_;rw[q]
  obtain⟨rd,wr,c1,c2,c3,c4⟩:=hw;rw[c4];refine⟨rd,wr,c1,c2,c3,?_⟩;have vM:=HV (s:=⟨s.h.put n none,s.nx,s.mark,rd,wr⟩) (l:=((l++[c]).map enc).flatten) (by rw[oC];simpa using ku) (vK _) Bz;exact(M.bL vM).trans rfl
 obtain⟨rd,wr,d1,d2,d3,d4⟩:=pK;refine⟨rd,wr,fun k h=>?_,d2,fun h=>⟨(d3 h).1.trans (by show(aV m s).rd=s.rd;rw[lZ m s h]),(d3 h).2⟩,?_⟩
 ·rcases d1 k h with h|h
  ·exact .inl h
  ·exact .inr<|qA h
 show oi P .append ts [x,y] YR t s=_;unfold oi;have ml:jU (aG t) [x,y]=some [.slice (some (n,0)) l.length<|.aq l.length i.size,.slice (some (m,0)) 1<|.known 1]:=by simp only[jU,hx,hy]
 rw[ml,bV];show pq P ts (.slice (some (n,0)) l.length<|.aq l.length i.size) (.slice (some (m,0)) 1<|.known 1) s=_;unfold pq;rw[h0,bV];simp only[hu];rw[hi,bV,hz,dA];show((firstCells i.size 1<|.slice (some (m,0)) 1<|.known 1).bind fun new=>aF (Nat.beq new.length<|1*i.size) <| qX i.size i.bytes (some (n,0)) l.length (.aq l.length i.size) 1 new) s=_;rw[M.bL hf,(xZ c).1,Nat.one_mul,eA.2 rfl,dA,jM];show(aF (Nat.beq i.size i.size) <| match Nat.ble (l.length+1) l.length with
  |true=>match (some (n,0):Option<|Nat×Nat) with
   |some (m,o)=>(wK m (o+l.length*i.size)<|enc c).bind fun _=>M.pure (.slice (some (m,o)) (l.length+1)<|.aq l.length i.size)
   |none=>fail
  |false=>match (some (n,0):Option<|Nat×Nat) with
   |some (m,0)=>(jc m 0<|l.length*i.size).bind fun dy=>(bu m).bind fun o=>aF o.yP <| (bK m none).bind fun _=>grown i.size i.bytes (l.length+1) dy (enc c)
   |_=>fail) s1=_
 have Gr:Nat.ble (l.length+1) l.length=false:=by
  cases q:Nat.ble (l.length+1) l.length with
  |false=>rfl
  |true=>have:=aK.1 q;omega
 rw[eA.2 rfl,dA];simp only[Gr];rw[M.bL a3,d4];simp
end
end Go.Rn
namespace Go.Rn
open Go.RowKit
variable {x i:Operand} {ty kt et:TypeId} {n:Nat} {k:Int}
section
variable {P:Program} {s s1:AS} {YR:aJ} {t:Tr AV}
noncomputable def bA(m:List<|Int×Int):ae:=.lv<|cq m
def lG:List (Int×Int)->Int->Bool
 |[],_=>false
 |p::l,k=>if p.1=k then true else lG l k
theorem TQ(k:Int):∀(m:List<|Int×Int) (i:Nat),(lG m k=false/\kR (.int .i64 k) (cq m) i=some none)\/∃j,lG m k=true/\kR (.int .i64 k) (cq m) i=some (some (j,.int .i64<|getM m k))
 |[],i=>.inl ⟨rfl,rfl⟩
 |p::l,i=>by
  have hf:kR (.int .i64 k) (cq<|p::l) i=(match some (k == p.1) with|none=>none|some true=>some (some (i,.int .i64 p.2))|some false=>kR (.int .i64 k) (cq l)<|i+1):=rfl;by_cases e:p.1=k
  ·refine .inr ⟨i,by unfold lG;rw[if_pos e],?_⟩;rw[hf,show(k == p.1)=true by simp[e],show getM (p::l) k=p.2 by simp[getM,e]]
  ·have ch:(k == p.1)=false:=by simp;exact fun q=>e q.symm
   rw[hf,ch,show lG (p::l) k=lG l k by simp[lG,e],show getM (p::l) k=getM l k by simp[getM,e]];exact TQ k l<|i+1
theorem aeU{m:List<|Int×Int}(hx:aG t x=some (.map<|some n))(hi:aG t i=some (.int .i64 k))(hu:P.underlying ty=some (.map kt et))(hk:ox P 10000 kt (.int .i64 k)=true)(hp:plainKey P kt (.int .i64 k)=true)(hz:qj P et=some (.int .i64 0))(hn:s.h.get n=some (bA m))(cO:Nat.blt n s.nx=true):(dI P<|.lookup ty x i true).val YR t s= .ok (.tuple [.int .i64 (if lG m k=true then getM m k else 0),.bool<|lG m k]) (aV n s):=by
 show wX P ty x i true YR t s=_;unfold wX;rw[hx,hi,bV,bV];unfold yR;simp only[hu];have hf:yX P kt (.int .i64 k) (.map<|some n) s= .ok (cq m) (aV n s):=by
  show((bu n).bind fun o=>match o with
   | .map es _=>M.pure es
   | .lv es=>aF (or (plainKey P kt<|.int .i64 k)<|short es) <| M.pure es
   |_=>fail) s=_
  rw[M.bL<|lR cO hn];show(aF (or (plainKey P kt<|.int .i64 k)<|short<|cq m) <| M.pure<|cq m) (aV n s)=_;rw[hp,show(or true<|short<|cq m)=true from rfl,dA];rfl
 rw[M.bL hf,hk,dA];have QD:findKey P kt (.int .i64 k) (cq m)=kR (.int .i64 k) (cq m) 0:=by unfold findKey;simp only[ug,hp]
 rw[QD];rcases TQ k m 0 with⟨h1,h2⟩|⟨j,h1,h2⟩
 ·rw[h2,bV,h1];show(aA (qj P et) fun z=>M.pure<|zP true z false) (aV n s)=_;rw[hz,bV];rfl
 ·rw[h2,bV,h1];rfl
theorem aeV{y:Operand}{v:Int}{m:List<|Int×Int}(hx:aG t x=some (.map<|some n))(hi:aG t i=some (.int .i64 k))(hy:aG t y=some (.int .i64 v))(hu:P.underlying ty=some (.map kt et))(hk:ox P 10000 kt (.int .i64 k)=true)(hp:plainKey P kt (.int .i64 k)=true)(hn:s.h.get n=some (bA m))(q1:Nat.blt n s.nx=true)(q2:Nat.blt n top=true):(dI P<|.mapUpdate ty x i y).val YR t s= .ok (.tuple []) (fp n (some<|bA<|fO m k v)<|aV n s):=by
 show qd P ty x i y YR t s=_;unfold qd;rw[hx,hi,hy,bV,bV,bV];have w:∀o:ae,bK n (some o) (aV n s)= .ok () (fp n (some o)<|aV n s):=fun o=>wY (by rw[(fN n s).2.1];exact q1) (by rw[(fN n s).1];exact hn) rfl q2;have ahU:xj P ty (.map<|some n) (.int .i64 k) (.int .i64 v) s= .ok () (fp n (some<|bA<|fO m k v)<|aV n s):=by
  unfold xj;simp only[hu];rw[M.bL<|lR q1 hn];show(aF (and (plainKey P kt<|.int .i64 k)<|ox P 10000 kt<|.int .i64 k) <| aA (findKey P kt (.int .i64 k)<|cq m) fun f=>Ax n (.int .i64 k) (.int .i64 v) (cq m) f) (aV n s)=_;rw[hk,hp,show(and true true)=true from rfl,dA];have QD:findKey P kt (.int .i64 k) (cq m)=kR (.int .i64 k) (cq m) 0:=by unfold findKey;simp only[ug,hp]
  rw[QD];rcases TL k m 0 with⟨h1,_,h3⟩|⟨j,z,h1,_,h3,h4⟩
  ·rw[h1,bV];show bK n (some<|.lv<|cq m++[(.int .i64 k,.int .i64 v)]) (aV n s)=_;rw[w,h3 v];simp only[bA,cq,List.map_append,List.map_cons,List.map_nil]
  ·rw[h1,bV];show bK n (some<|.lv<|putAt (cq m) (0+j) (.int .i64 k)<|.int .i64 v) (aV n s)=_;rw[Nat.zero_add,w,(h4 v).1];rfl
 rw[M.bL ahU];rfl
end
end Go.Rn
namespace Go.Rn
open Go.RowKit
variable {n k:Nat} {l L2 L1:List AV} {y x:Operand} {ty e:TypeId} {ts:Array TypeId} {i:TypeInfo} {rK:bZ}
section
variable {P:Program} {s:AS} {YR:aJ} {t:Tr AV}
theorem S8{s:AS}(h1:Nat.blt n s.nx=true)(h2:s.h.get n=some (.cells l.length (Tr.fill l 0 .nil) []))(hl:l.length<=top)(hk:k<=l.length):
 ∃rd,(∀x∈rd,x=n\/x∈s.rd)/\(s.mark=0->rd=s.rd)/\jc n 0 k s= .ok (l.take k) ⟨s.h,s.nx,s.mark,rd,s.wr⟩:=by
 cases k with
 |zero=>exact⟨s.rd,fun x h=>.inr h,fun _=>rfl,rfl⟩
 |succ k=>
  have hr:=Cu (n:=n) (off:=0) (k:=k+1) (l:=l) (s:=s) h1 h2 hl (Nat.succ_pos _) aj;rw[List.drop_zero] at hr;refine⟨(aV n s).rd,?_,fun hm=>?_,?_⟩
  ·intro k h;unfold aV at h;cases q:Nat.blt n s.mark with
   |false=>rw[q] at h;exact .inr h
   |true=>rw[q] at h;rcases List.mem_cons.1 h with h|h;exact .inl h;exact .inr h
  ·unfold aV;rw[hm,show Nat.blt n 0=false from by cases q:Nat.blt n 0 with|false=>rfl|true=>have:=(blt_eq _ _).mp q;omega]
  ·rw[hr];congr 1;unfold aV;cases Nat.blt n s.mark<;>rfl
theorem aeW{m len:Nat}(hx:aG t x=some (.slice (some (n,0)) len<|.known len))(hy:aG t y=some (.slice (some (m,0)) k rK))(h0:ts[0]? =some ty)(hu:P.underlying ty=some (.slice e))(hi:P.info? e=some i)(hz:and (sK i) (pt P ts[1]?)=true)(hk:1<=k)(hn:s.h.get n=some (.cells L1.length (Tr.fill L1 0 .nil) []))(hm:s.h.get m=some (.cells L2.length (Tr.fill L2 0 .nil) []))(KR:L1.length<=top)(ym:L2.length<=top)(h1:len*i.size<=L1.length)(h2:k*i.size<=L2.length)(he:L1.take (len*i.size)++L2.take (k*i.size)=l)(cO:(Nat.blt n s.nx&&(Nat.blt m s.nx&&Nat.blt s.nx top))=true)(vK:l.all AV.bR=true)(hb:Nat.beq i.bytes 0=false)(tD:2*(len+k)*i.bytes+4096*i.bytes<=room)(ku:l.length<=top):
 ∃rd wr,(∀q∈rd,q=n\/q=m\/q∈s.rd)/\(∀q∈wr,q∈s.wr)/\(s.mark=0->rd=s.rd/\wr=s.wr)/\(dI P<|.call ⟨.builtin .append, #[x,y],ts⟩).val YR t s= .ok (.slice (some (s.nx,0)) (len+k)<|.aq (len+k) i.size) ⟨s.h.put s.nx<|some<|.cells l.length (Tr.fill l 0 .nil) [],s.nx+1,s.mark,rd,wr⟩:=by
 obtain⟨fw,cO⟩:=and_true.1 cO;obtain⟨fc,B5⟩:=and_true.1 cO;have Bz:=(blt_eq _ _).mp B5;have hf:firstCells i.size k (.slice (some (m,0)) k rK) s=jc m 0 (k*i.size) s:=by
  cases k with
  |zero=>omega
  |succ k=>cases rK<;>rfl
 obtain⟨gq,a1,a2,a3⟩:=S8 fc hm ym h2;obtain⟨BW,b1,b2,b3⟩:=S8 (s:=⟨s.h,s.nx,s.mark,gq,s.wr⟩) fw hn KR h1;refine⟨BW,s.wr,fun q hq=>?_,fun q hq=>hq,fun zQ=>⟨(b2 zQ).trans<|a2 zQ,rfl⟩,?_⟩
 ·rcases b1 q hq with h|h
  ·exact .inl h
  ·exact .inr<|a1 q h
 show oi P .append ts [x,y] YR t s=_;unfold oi;have ml:jU (aG t) [x,y]=some [.slice (some (n,0)) len<|.known len,.slice (some (m,0)) k rK]:=by simp only[jU,hx,hy]
 rw[ml,bV];show pq P ts (.slice (some (n,0)) len<|.known len) (.slice (some (m,0)) k rK) s=_;unfold pq;rw[h0,bV];simp only[hu];rw[hi,bV,hz,dA];show(aA (some k) fun B6=>(firstCells i.size B6<|.slice (some (m,0)) k rK).bind fun new=>aF (Nat.beq new.length<|B6*i.size) <| qX i.size i.bytes (some (n,0)) len (.known len) B6 new) s=_;rw[bV,M.bL<|hf.trans a3];have Pc:(L2.take<|k*i.size).length=k*i.size:=by rw[List.length_take];omega
 rw[Pc,eA.2 rfl,dA];unfold qX;have Gr:Nat.ble (len+k) len=false:=by cases q:Nat.ble (len+k) len with|false=>rfl|true=>have:=aK.1 q;omega
 simp only[Gr];have QE:firstCells i.size len (.slice (some (n,0)) len<|.known len) ⟨s.h,s.nx,s.mark,gq,s.wr⟩=jc n 0 (len*i.size) ⟨s.h,s.nx,s.mark,gq,s.wr⟩:=by cases len<;>rfl
 rw[M.bL<|QE.trans b3];unfold grown;rw[show(and (Nat.ble (2*(len+k)*i.bytes+4096*i.bytes) room)<|not<|Nat.beq i.bytes 0)=true from and_true.2 ⟨aK.2 tD,by rw[hb];rfl⟩,dA,he];have vM:=HV (s:=⟨s.h,s.nx,s.mark,BW,s.wr⟩) (l:=l) ku vK Bz;exact(M.bL vM).trans rfl
noncomputable def PL(o:ae)(s:AS):AS:=⟨s.h.put s.nx<|some o,s.nx+1,s.mark,s.rd,s.wr⟩
theorem aeX{m len:Nat}(hx:aG t x=some (.slice (some (n,0)) len<|.known len))(hy:aG t y=some (.slice (some (m,0)) k rK))(h0:ts[0]? =some ty)(hu:P.underlying ty=some (.slice e))(hi:P.info? e=some i)(hz:and (sK i) (pt P ts[1]?)=true)(hlen:1<=len)(hk:1<=k)(hs:1<=i.size)(hn:s.h.get n=some (.cells L1.length (Tr.fill L1 0 .nil) []))(hm:s.h.get m=some (.cells L2.length (Tr.fill L2 0 .nil) []))(KR:L1.length<=top)(ym:L2.length<=top)(h1:len*i.size<=L1.length)(h2:k*i.size<=L2.length)(he:L1.take (len*i.size)++L2.take (k*i.size)=l)(cO:(Nat.blt n s.nx&&(Nat.blt m s.nx&&Nat.blt s.nx top))=true)(vK:l.all AV.bR=true)(hb:Nat.beq i.bytes 0=false)(tD:2*(len+k)*i.bytes+4096*i.bytes<=room)(ku:l.length<=top):
 (dI P<|.call ⟨.builtin .append, #[x,y],ts⟩).val YR t s= .ok (.slice (some (s.nx,0)) (len+k)<|.aq (len+k) i.size) (PL (.cells l.length (Tr.fill l 0 .nil) [])<|aV n<|aV m s):=by
 obtain⟨fw,cO⟩:=and_true.1 cO;obtain⟨fc,B5⟩:=and_true.1 cO;have Bz:=(blt_eq _ _).mp B5;have hf:firstCells i.size k (.slice (some (m,0)) k rK) s=jc m 0 (k*i.size) s:=by
  cases k with
  |zero=>omega
  |succ k=>cases rK<;>rfl
 have p1:0<k*i.size:=Nat.mul_pos aj aj;have p2:0<len*i.size:=Nat.mul_pos aj aj;have a3:=Cu (n:=m) (off:=0) (k:=k*i.size) (l:=L2) (s:=s) fc hm ym p1 aj;have b3:=Cu (n:=n) (off:=0) (k:=len*i.size) (l:=L1) (s:=aV m s) (by rw[(fN m s).2.1];exact fw) (by rw[(fN m s).1];exact hn) KR p2 aj;rw[List.drop_zero] at a3 b3;show oi P .append ts [x,y] YR t s=_;unfold oi;have ml:jU (aG t) [x,y]=some [.slice (some (n,0)) len<|.known len,.slice (some (m,0)) k rK]:=by simp only[jU,hx,hy]
 rw[ml,bV];show pq P ts (.slice (some (n,0)) len<|.known len) (.slice (some (m,0)) k rK) s=_;unfold pq;rw[h0,bV];simp only[hu];rw[hi,bV,hz,dA];show(aA (some k) fun B6=>(firstCells i.size B6<|.slice (some (m,0)) k rK).bind fun new=>aF (Nat.beq new.length<|B6*i.size) <| qX i.size i.bytes (some (n,0)) len (.known len) B6 new) s=_;rw[bV,M.bL<|hf.trans a3];have Pc:(L2.take<|k*i.size).length=k*i.size:=by rw[List.length_take];omega
 rw[Pc,eA.2 rfl,dA];unfold qX;have Gr:Nat.ble (len+k) len=false:=by cases q:Nat.ble (len+k) len with|false=>rfl|true=>have:=aK.1 q;omega
 simp only[Gr];have QE:firstCells i.size len (.slice (some (n,0)) len<|.known len) (aV m s)=jc n 0 (len*i.size) (aV m s):=by
  cases len with
  |zero=>omega
  |succ k=>rfl
 rw[M.bL<|QE.trans b3];unfold grown;rw[show(and (Nat.ble (2*(len+k)*i.bytes+4096*i.bytes) room)<|not<|Nat.beq i.bytes 0)=true from and_true.2 ⟨aK.2 tD,by rw[hb];rfl⟩,dA,he];have ct:(aV n<|aV m s).nx=s.nx:=by rw[(fN n _).2.1,(fN m _).2.1]
 have vM:=HV (s:=aV n<|aV m s) (l:=l) ku vK (by rw[ct];exact Bz);rw[ct] at vM;refine(M.bL vM).trans ?_;unfold PL;rw[ct];rfl
end
end Go.Rn
