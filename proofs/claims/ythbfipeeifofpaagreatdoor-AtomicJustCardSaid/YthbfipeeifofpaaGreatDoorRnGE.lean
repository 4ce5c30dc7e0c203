import Derived.Test.YthbfipeeifofpaaGreatDoorRnGD
import Derived.CheckFast
import Derived.Lib.ItoaNum
import Derived.LaidMore
import Derived.LaidHandle
import Derived.Lib.LaidTab
import Derived.Sort.Grow
import Derived.Deep.Draws
set_option maxRecDepth 100000
set_option maxHeartbeats 8000000
set_option linter.unusedSimpArgs false
set_option linter.unusedVariables false
namespace Go.Rn
open Go.RowKit
variable {i:Nat} {d:Option Tmp} {v:AV} {o:Oper}
noncomputable section
def aE:List (Nat×AV)->Tr AV
 |[]=>.nil
 |p::l=>(aE l).put p.1<|some p.2
def fR:List (Nat×Option ae)->Tr ae
 |[]=>.nil
 |p::l=>(fR l).put p.1 p.2
def ah(l:List<|Nat×Option ae)(nx:Nat):AS:=⟨fR l,nx,0,[],[]⟩
def Vd(P:Program)(f:FuncId):Code:=
 match P.funcs[f]? with
 |none=>.skip
 |some fn=>match fn.body with
  |none=>.skip
  |some c=>c
def aS(P:Program)(f:FuncId)(p:List Nat):Code:=sr p<|Vd P f
def opsOf:Code->Array Oper
 | .region _ ops _=>ops
 |_=> #[]
def pe(P:Program)(Yw:aK)(nt:Nat)(ops:Array Oper)(i n:Nat)(t:Tr AV):M<|Tr AV:=je P Yw nt ops ((ops.toList.drop i).take n) t
def xJ(ops:Array Oper)(i:Nat):Option<|Op×Option Tmp×Option (Nat×Bool):=
 match ops[i]? with
 |none=>none
 |some o=>some (o.op,o.dst,o.guard)
end
section
variable {P:Program} {B:aJ} {J:Nat} {Q:Tr AV->List Nat->Option Code->AS->Prop} {ρ:Ren} {w:World} {s s1 s2:AS} {Yw:aK} {t t1 t2:Tr AV} {ops:Array Oper} {nt:Nat}
theorem Mh{l:List Oper}:je P Yw nt ops (o::l) t=(gM P Yw nt ops o t).bind (je P Yw nt ops l):=rfl
theorem Tl:∀{l1 l2:List Oper} {t t1:Tr AV} {s s1:AS},je P Yw nt ops l1 t s= .ok t1 s1->je P Yw nt ops (l1++l2) t s=je P Yw nt ops l2 t1 s1
 |[],l2,t,t1,s,s1,h=>by cases h;rfl
 |o::l1,l2,t,t1,s,s1,h=>by rw[Mh] at h;obtain⟨t',s',h1,h2⟩:=M.aN h;show je P Yw nt ops (o::(l1++l2)) t s=_;rw[Mh,M.bK h1];exact Tl h2
theorem R2{n m:Nat}(h1:pe P Yw nt ops i n t s= .ok t1 s1)(h2:pe P Yw nt ops (i+n) m t1 s1= .ok t2 s2):pe P Yw nt ops i (n+m) t s= .ok t2 s2:=by unfold pe at h1 h2 ⊢;rw[List.take_add,Tl h1,List.drop_drop];exact h2
theorem R3(ho:ops[i]? =some o)(h:gM P Yw nt ops o t s= .ok t1 s1):pe P Yw nt ops i 1 t s= .ok t1 s1:=by
 unfold pe;have:(ops.toList.drop i).take 1=[o]:=by
  have h1:ops.toList[i]? =some o:=by rw[Array.getElem?_toList];exact ho
  obtain⟨hi,e⟩:=List.getElem?_eq_some_iff.1 h1;rw[List.drop_eq_getElem_cons hi,e];rfl
 rw[this,Mh,M.bK h];rfl
theorem HW{op:Op}{g:Option<|Nat×Bool}(h:xJ ops i=some (op,d,g)):∃o,ops[i]? =some o/\o.op=op/\o.dst=d/\o.guard=g:=by
 unfold xJ at h;split at h
 ·cases h
 ·rename_i o e;injection h with h
  injection h with h1 h
  injection h with h2 h3
  exact⟨o,e,h1,h2,h3⟩
theorem cz{op:Op}(ho:xJ ops i=some (op,d,none))(h:(dG P op).val Yw t s= .ok v s1)(hp:jd nt t d v=some t1):pe P Yw nt ops i 1 t s= .ok t1 s1:=by obtain⟨o,e,rfl,rfl,e3⟩:=HW ho;refine R3 e ?_;unfold gM A9;rw[e3];show rG (dG P o.op) o.dst Yw nt t s=_;unfold rG;rw[M.bK h,hp];rfl
theorem ahx{op:Op}{g:Nat×Bool}(ho:xJ ops i=some (op,d,some g))(hk:sH ops t g.1=true)(hw:p0 ops g t=true)(h:(dG P op).val Yw t s= .ok v s1)(hp:jd nt t d v=some t1):pe P Yw nt ops i 1 t s= .ok t1 s1:=by obtain⟨o,e,rfl,rfl,e3⟩:=HW ho;refine R3 e ?_;unfold gM A9;rw[e3];show te ops g (dG P o.op) o.dst Yw nt t s=_;unfold te;rw[hk,hw,dy];show((dG P o.op).val Yw t).bind (fun v=>lift<|jd nt t o.dst v) s=_;rw[M.bK h,hp];rfl
theorem LP:∀{l:List<|List AV} {K i:Nat} {c:List AV},(∀c∈l,c.length=K)->l[i]? =some c->(l.flatten.drop<|i*K).take K=c
 |[],_,_,_,_,h=>by simp at h
 |x::l,K,0,c,hl,h=>by simp at h;subst h;have hx:=hl x List.mem_cons_self;rw[Nat.zero_mul,List.drop_zero,List.flatten_cons,List.take_append,hx,Nat.sub_self,List.take_zero,List.append_nil, ←hx,List.take_length]
 |x::l,K,i+1,c,hl,h=>by have hx:=hl x List.mem_cons_self;rw[List.flatten_cons,List.drop_append,hx,show(i+1)*K - K=i*K by rw[Nat.add_mul,Nat.one_mul];omega,List.drop_eq_nil_of_le (by rw[hx,Nat.add_mul,Nat.one_mul];omega),List.nil_append];exact LP (fun c hc=>hl c<|List.mem_cons_of_mem _ hc) (by simpa using h)
end
end Go.Rn
namespace Go.Rn
open Go.RowKit
section
variable {P:Program} {s s1:AS} {Yw:aK} {t:Tr AV}
theorem acM{op:BinOp}{ty yt:TypeId}{x y:Operand}{k:IntKind}{a b:Int}{r:Bool}(hx:aH t x=some (.int k a))(hy:aH t y=some (.int k b))(hs:yD op=false)(hg:Il P op ty x y (.int k a) (.int k b)=true)(hr:C8 op k a b=some (.bool r)):
 (dG P<|.binOp op ty x y yt).val Yw t s= .ok (.bool r) s:=by
 show tB P op ty x y Yw t s=_;unfold tB;rw[hx,hy,bT,bT,hg,dy];have:AK P op ty (.int k a) (.int k b)=some (.bool r):=by unfold AK;simp only[hs,decide_true];exact hr
 rw[this];rfl
end
end Go.Rn
namespace Go.Rn
open Go.RowKit
section
variable {P:Program} {B:aJ} {J:Nat} {Q:Tr AV->List Nat->Option Code->AS->Prop} {s s1 s2:AS} {Yw:aK} {t t1 t2:Tr AV} {ops:Array Oper} {nt:Nat}
theorem acN{op:BinOp}{ty yt:TypeId}{x y:Operand}{k:IntKind}{a b:Int}{r:AV}(hx:aH t x=some (.int k a))(hy:aH t y=some (.int k b))(hs:yD op=false)(hg:Il P op ty x y (.int k a) (.int k b)=true)(hr:C8 op k a b=some r):
 (dG P<|.binOp op ty x y yt).val Yw t s= .ok r s:=by
 show tB P op ty x y Yw t s=_;unfold tB;rw[hx,hy,bT,bT,hg,dy];have:AK P op ty (.int k a) (.int k b)=some r:=by unfold AK;simp only[hs,decide_true];exact hr
 rw[this];rfl
noncomputable def tC(P:Program)(Yw:aK)(nt:Nat)(ops:Array Oper)(i n:Nat)(t:Tr AV):M<|Tr AV×List Met:=mR P Yw nt ops ((ops.toList.drop i).take n) i t
theorem SG:∀{l1 l2:List Oper} {i:Nat} {t t1 t2:Tr AV} {m1 m2:List Met} {s s1 s2:AS},mR P Yw nt ops l1 i t s= .ok (t1,m1) s1->mR P Yw nt ops l2 (i+l1.length) t1 s1= .ok (t2,m2) s2->mR P Yw nt ops (l1++l2) i t s= .ok (t2,m1++m2) s2
 |[],l2,i,t,t1,t2,m1,m2,s,s1,s2,h,k=>by cases h;exact k
 |o::l1,l2,i,t,t1,t2,m1,m2,s,s1,s2,h,k=>by
  have h':((alone i<|gM P Yw nt ops o t).bind fun x=>(mR P Yw nt ops l1 (i+1) x.1).bind fun y=>M.pure (y.1,x.2::y.2)) s= .ok (t1,m1) s1:=h;obtain⟨x,sx,e1,e2⟩:=M.aN h';obtain⟨y,sy,e3,e4⟩:=M.aN e2;obtain⟨e5,rfl⟩:=bA e4;injection e5 with e6 e7
  subst e6;subst e7;have:=SG (i:=i+1) e3 (by rw[show i+1+l1.length=i+(o::l1).length by simp;omega];exact k);show((alone i<|gM P Yw nt ops o t).bind fun x=>(mR P Yw nt ops (l1++l2) (i+1) x.1).bind fun y=>M.pure (y.1,x.2::y.2)) s=_;rw[M.bK e1,M.bK this];rfl
theorem Tm{i n m N:Nat}{m1 m2:List Met}(hN:ops.size=N)(hi:i+n<=N)(h1:tC P Yw nt ops i n t s= .ok (t1,m1) s1)(h2:tC P Yw nt ops (i+n) m t1 s1= .ok (t2,m2) s2):tC P Yw nt ops i (n+m) t s= .ok (t2,m1++m2) s2:=by unfold tC at h1 h2 ⊢;rw[List.take_add,List.drop_drop];refine SG h1 ?_;rw[List.length_take,List.length_drop,Array.length_toList,hN,Nat.min_eq_left aj];exact h2
theorem Cu:∀{l:List<|Nat×AV} {i:Nat} {y:AV},(∀p∈l,p.1<top)->(aE l).get i=some y->(i,y)∈l
 |[],i,y,_,h=>by have:(Tr.nil:Tr AV).get i=some y:=h;rw[Tr.get_nil] at this;cases this
 |p::l,i,y,hl,h=>by
  have h':((aE l).put p.1<|some p.2).get i=some y:=h;rw[Tr.lH _ _ _ _<|hl p List.mem_cons_self] at h';by_cases e:i=p.1
  ·rw[if_pos e] at h';injection h' with h';subst h';subst e;exact List.mem_cons_self
  ·rw[if_neg e] at h';exact List.mem_cons_of_mem _<|Cu (fun q hq=>hl q<|List.mem_cons_of_mem _ hq) h'
theorem uE:∀{l:List<|Nat×Option ae} {i:Nat} {y:ae},(∀p∈l,p.1<top)->(fR l).get i=some y->(i,some y)∈l
 |[],i,y,_,h=>by have:(Tr.nil:Tr ae).get i=some y:=h;rw[Tr.get_nil] at this;cases this
 |p::l,i,y,hl,h=>by
  have h':((fR l).put p.1 p.2).get i=some y:=h;rw[Tr.lH _ _ _ _<|hl p List.mem_cons_self] at h';by_cases e:i=p.1
  ·rw[if_pos e] at h';have:p=(i,some y):=by rw[e, ←h']
   rw[←this];exact List.mem_cons_self
  ·rw[if_neg e] at h';exact List.mem_cons_of_mem _<|uE (fun q hq=>hl q<|List.mem_cons_of_mem _ hq) h'
theorem ba.same(x:AV):ba (fun k=>k) x x:=fun _ _ h=>h
theorem kL.same(x:ae):kL (fun k=>k) x x:=fun _ _ _ h=>h
def xq(t:Tr AV):List (Nat×AV)->Prop
 |[]=>True
 |p::l=>t.get p.1=some p.2/\xq t l
def xK(h:Tr ae):List (Nat×Option ae)->Prop
 |[]=>True
 |p::l=>(h.get p.1=p.2/\∀o,p.2=some o->o.jO=true)/\xK h l
theorem xq.mem{t:Tr AV}:∀{l:List<|Nat×AV},xq t l->∀p∈l,t.get p.1=some p.2
 |[],_,p,hp=>by cases hp
 |q::l,h,p,hp=>by
  rcases List.mem_cons.1 hp with rfl|hp
  ·exact h.1
  ·exact xq.mem h.2 p hp
theorem xK.mem{h:Tr ae}:∀{l:List<|Nat×Option ae},xK h l->∀p∈l,h.get p.1=p.2/\∀o,p.2=some o->o.jO=true
 |[],_,p,hp=>by cases hp
 |q::l,k,p,hp=>by
  rcases List.mem_cons.1 hp with rfl|hp
  ·exact k.1
  ·exact xK.mem k.2 p hp
def pB{α:Type}(n:Nat):List (Nat×α)->Bool
 |[]=>true
 |p::l=>Nat.blt p.1 n&&pB n l
theorem wB{α:Type}{n:Nat}:∀{l:List<|Nat×α},pB n l=true->∀p∈l,p.1<n
 |[],_,p,hp=>by cases hp
 |q::l,h,p,hp=>by
  obtain⟨h1,h2⟩:=and_true.1 h;rcases List.mem_cons.1 hp with rfl|hp
  ·exact(blt_eq _ _).mp h1
  ·exact wB h2 p hp
theorem au.less{f:FuncId}{K:List Item}{l:List<|Nat×AV}{o:List<|Nat×Option ae}{nx:Nat}(hl:pB top l=true)(ho:pB top o=true)(hn:(Nat.ble s.nx nx&&Nat.ble nx top)=true)(hg:fI<=J)(ht:xq t l)(hh:xK s.h o)(H:au P B J Q ⟨f,aE l,nt,K,[],none⟩<|ah o nx):au P B J Q ⟨f,t,nt,K,[],none⟩ s:=by
 obtain⟨BG,tU⟩:=and_true.1 hn;have BG:=aM.1 BG;have tU:=aM.1 tU;refine au.weaken (s2:=ah o nx) (t2:=aE l) [] (fun k=>k) (fun _ _=>rfl) (fun k hk ht=>⟨Nat.le_trans BG hk,ht⟩) (fun _ _=>rfl) hg ⟨Nat.zero_le _,tU⟩ rfl rfl (fun _ h=>by cases h) (fun i y hy=>?_) (fun n o2 hn hg=>?_) (fun _ h=>by cases h) (fun n m _ _ _ _ _ _ e=>e) H
 ·have:=Cu (fun p hp=>wB hl p hp) hy;exact⟨y,ht.mem _ this,(ba.same y).z⟩
 ·have:=uE (fun p hp=>wB ho p hp) hg;obtain⟨h1,h2⟩:=hh.mem _ this;exact⟨hn,.inl<|h2 o2 rfl,o2,h1,fK.refl _,(kL.same o2).z⟩
end
end Go.Rn
namespace Go.Rn
open Go.RowKit
section
variable {P:Program} {s s1:AS} {Yw:aK} {t:Tr AV}
theorem LF{l z:List AV}(hl:l.length<=top):∀(k off:Nat),off+k<=l.length->lK (Tr.fill l 0 .nil) z k off=some ((l.drop off).take k)
 |0,off,_=>by simp[lK]
 |k+1,off,h=>by
  have bZ:off<l.length:=by omega
  have hc:cellAt (Tr.fill l 0 .nil) z off=some l[off]:=by unfold cellAt;rw[Tr.sg _ _ _ _ aj,if_pos aj,Nat.sub_zero,List.getElem?_eq_getElem bZ]
  simp only[lK,hc,LF hl k (off+1) aj];rw[List.drop_eq_getElem_cons bZ,List.take_succ_cons]
noncomputable def aA{α:Type}(enc:α->List AV)(l:List α):ae:=.cells (l.map enc).flatten.length (Tr.fill (l.map enc).flatten 0 .nil) []
theorem acO{o:ae}(ht:s.nx<top):gA o s= .ok s.nx {s with h:=s.h.put s.nx<|some o,nx:=s.nx+1}:=by
 obtain⟨hh,nx,mark,rd,wr⟩:=s;have e1:Nat.blt nx top=true:=by rw[blt_eq];exact ht
 show @Bool.rec (fun _=>R Nat) .bad (forced nx fun m=>.ok m ⟨hh.put m<|some o,m+1,mark,rd,wr⟩) (Nat.blt nx top)=_;rw[e1,yy]
theorem HE{l:List AV}(hl:l.length<=top)(h1:l.all AV.bQ=true)(ht:s.nx<top):newRow l s= .ok s.nx {s with h:=s.h.put s.nx<|some<|.cells l.length (Tr.fill l 0 .nil) [],nx:=s.nx+1}:=by unfold newRow;rw[show(and (Nat.ble l.length top)<|l.all AV.bQ)=true from and_true.2 ⟨aM.2 hl,h1⟩,dy];exact acO ht
end
end Go.Rn
namespace Go.Rn
open Go.RowKit
end Go.Rn
namespace Go.Rn
open Go.RowKit
noncomputable section
def cq(m:List<|Int×Int):List<|AV×AV:=m.map fun p=>(.int .i64 p.1,.int .i64 p.2)
def xL(m:List<|Int×Int):ae:=.map (cq m) m.length
end
def getM:List (Int×Int)->Int->Int
 |[],_=>0
 |p::l,k=>if p.1=k then p.2 else getM l k
def fM:List (Int×Int)->Int->Int->List (Int×Int)
 |[],k,v=>[(k,v)]
 |p::l,k,v=>if p.1=k then(k,v)::l else p::fM l k v
section
variable {P:Program} {s s1:AS} {Yw:aK} {t:Tr AV}
theorem Tn(a b:Int):sameKey (.int .i64 a) (.int .i64 b)=some (a == b):=rfl
theorem To(k:Int):∀(m:List<|Int×Int) (i:Nat),(kE (.int .i64 k) (cq m) i=some none/\getM m k=0/\∀v,fM m k v=m++[(k,v)])\/
 ∃j y,kE (.int .i64 k) (cq m) i=some (some (i+j,.int .i64 y))/\getM m k=y/\m[j]? =some (k,y)/\∀v,putAt (cq m) j (.int .i64 k) (.int .i64 v)=cq (fM m k v)/\(fM m k v).length=m.length
 |[],i=>.inl ⟨rfl,rfl,fun _=>rfl⟩
 |p::l,i=>by
  have hf:kE (.int .i64 k) (cq<|p::l) i=(match some (k == p.1) with|none=>none|some true=>some (some (i,.int .i64 p.2))|some false=>kE (.int .i64 k) (cq l)<|i+1):=rfl;by_cases e:p.1=k
  ·refine .inr ⟨0,p.2,?_,?_,?_,fun v=>⟨?_,?_⟩⟩
   ·rw[hf,show(k == p.1)=true by simp[e]];rfl
   ·simp[getM,e]
   ·simp[←e]
   ·simp[fM,e,cq,putAt]
   ·simp[fM,e]
  ·have cf:(k == p.1)=false:=by simp;exact fun q=>e q.symm
   rcases To k l (i+1) with⟨h1,h2,h3⟩|⟨j,y,h1,h2,h3,h4⟩
   ·refine .inl ⟨?_,?_,fun v=>?_⟩
    ·rw[hf,cf];exact h1
    ·simp[getM,e,h2]
    ·simp[fM,e,h3 v]
   ·refine .inr ⟨j+1,y,?_,?_,?_,fun v=>⟨?_,?_⟩⟩
    ·rw[hf,cf];show kE _ _ _=_;rw[h1];congr 3;omega
    ·simp[getM,e,h2]
    ·simpa using h3
    ·have:=(h4 v).1;simp only[fM,e,if_false];show(_:AV×AV)::putAt (cq l) j _ _=_::cq (fM l k v);rw[this]
    ·simp[fM,e,(h4 v).2]
end
end Go.Rn
namespace Go.Rn
open Go.RowKit
section
variable {r:Nat->Nat}
theorem ba.int(k:IntKind)(n:Int):ba r (.int k n)<|.int k n:=fun _ _ h=>h
theorem ba.bool(b:Bool):ba r (.bool b)<|.bool b:=fun _ _ h=>h
theorem ba.yA:ba r (.slice none 0<|.known 0)<|.slice none 0<|.known 0:=fun _ _ h=>h
theorem ba.ptr{n m o:Nat}(e:r m=n):ba r (.ptr<|some (n,o))<|.ptr<|some (m,o):=by intro ρ v h;simp only[VR] at h ⊢;rw[e];exact h
theorem ba.map{n m:Nat}(e:r m=n):ba r (.map<|some n)<|.map<|some m:=by intro ρ v h;simp only[VR] at h ⊢;rw[e];exact h
theorem ba.slice{n m o len:Nat}{c:bW}(e:r m=n):ba r (.slice (some (n,o)) len c)<|.slice (some (m,o)) len c:=by intro ρ v h;cases c<;>simp only[VR] at h ⊢ <;>rw[e]<;>exact h
theorem ba.U{n o len:Nat}(e:r n=n)(hr:∀k,top<=k->r k=k):ba r (.U n o len)<|.U n o len:=by intro ρ v h;simp only[VR] at h ⊢;refine h.imp id fun⟨b,sh,c,h1,h2⟩=>⟨b,sh,c,h1.imp (fun q=>⟨q.1,(congrArg ρ e).trans q.2⟩) fun q=>⟨q.1,fun z=>q.2<|(congrArg ρ<|hr _<|gb _ _ _).symm.trans z⟩,h2⟩
def AV.flat:AV->Bool
 | .bool _| .int _ _| .str _| .JR _=>true
 | .ptr none| .map none| .nilFunc| .nilIface=>true
 | .slice none _ (.known _)=>true
 |_=>false
theorem ba.flat{x:AV}(h:x.flat=true):ba r x x:=by
 intro ρ v k;cases x<;>first|exact k|skip
 case slice a len cap=>cases a with
  |some _=>cases h
  |none=>cases cap with
   |known c=>simp only[VR] at k ⊢;exact k
   |aq _ _=>cases h
   |lost=>cases h
 all_goals first|(cases h;done)|skip
 all_goals
  rename_i a;cases a with
  |none=>exact k
  |some _=>cases h
def ou(r:Nat->Nat):List AV->List AV->Prop
 |[],[]=>True
 |x::l,y::m=>ba r x y/\ou r l m
 |_,_=>False
theorem ou.length:∀{l m:List AV},ou r l m->l.length=m.length
 |[],[],_=>rfl
 |_::_,_::_,h=>by simp[ou.length h.2]
 |[],_::_,h=>by cases h
 |_::_,[],h=>by cases h
theorem ou.ak:∀{l m:List AV} {i:Nat} {x y:AV},ou r l m->l[i]? =some x->m[i]? =some y->ba r x y
 |x::l,y::m,0,a,b,h,h1,h2=>by simp at h1 h2;subst h1;subst h2;exact h.1
 |x::l,y::m,i+1,a,b,h,h1,h2=>ou.ak h.2 (by simpa using h1) (by simpa using h2)
 |[],[],_,_,_,_,h1,_=>by simp at h1
 |_::_,[],_,_,_,h,_,_=>by cases h
 |[],_::_,_,_,_,h,_,_=>by cases h
theorem ou.flat:∀{l:List AV},l.all AV.flat=true->ou r l l
 |[],_=>trivial
 |x::l,h=>by obtain⟨h1,h2⟩:=and_true.1 (show(x.flat&&l.all AV.flat)=true from h);exact⟨ba.flat h1,ou.flat h2⟩
theorem kL.cells{l m:List AV}(hl:l.length<=top)(h:ou r l m)(h1:m.all AV.bQ=true):kL r (.cells l.length (Tr.fill l 0 .nil) [])<|.cells m.length (Tr.fill m 0 .nil) []:=by
 have hlen:=h.length;intro ρ N o k;obtain⟨c,e,rfl,k1,k2,k3⟩:=k;refine⟨c,e,rfl,k1,by omega,fun i hi=>?_⟩;obtain⟨x,v,a1,a2,a3,a4⟩:=k3 i aj;have hx:l[i]? =some x:=by unfold cellAt at a1;rw[Tr.sg _ _ _ _ aj,if_pos aj,Nat.sub_zero,List.getElem?_eq_getElem aj] at a1;rw[List.getElem?_eq_getElem aj];exact a1
 have hy:m[i]? =some m[i]:=List.getElem?_eq_getElem hi;refine⟨m[i],v,?_,?_,a3,h.ak hx hy ρ v a4⟩
 ·unfold cellAt;rw[Tr.sg _ _ _ _ aj,if_pos aj,Nat.sub_zero,hy]
 ·exact List.all_eq_true.1 h1 _<|List.getElem_mem hi
theorem kL.aA{α:Type}{enc:α->List AV}{l:List α}(he:∀x,(enc x).all AV.flat=true/\(enc x).all AV.bQ=true)(hl:(l.map enc).flatten.length<=top):kL r (aA enc l)<|aA enc l:=by
 have hf:∀(p:AV->Bool),(∀x,(enc x).all p=true)->∀l:List α,(l.map enc).flatten.all p=true:=by
  intro p hp l;induction l with
  |nil=>rfl
  |cons x l ih=>simp only[List.map_cons,List.flatten_cons,List.all_append,ih,hp x,Bool.and_true]
 exact kL.cells hl (ou.flat<|hf _ (fun x=>(he x).1) l)<|hf _ (fun x=>(he x).2) l
def afS(r:Nat->Nat)(h:Tr ae):List (Nat×ae)->Prop
 |[]=>True
 |p::l=>(p.2.plain=true/\∃x,h.get (r p.1)=some x/\(x.dh=p.2.dh/\x.mD=p.2.mD)/\kL r x p.2)/\afS r h l
def aW:List (Nat×ae)->List (Nat×Option ae)
 |[]=>[]
 |p::l=>(p.1,some p.2)::aW l
theorem Mi:∀{l:List<|Nat×ae} {i:Nat} {y:ae},(i,some y)∈aW l->(i,y)∈l
 |p::l,i,y,h=>by
  rcases List.mem_cons.1 h with h|h
  ·injection h with h1 h2
   injection h2 with h2
   have:p=(i,y):=by rw[h1,h2]
   rw[←this];exact List.mem_cons_self
  ·exact List.mem_cons_of_mem _<|Mi h
variable {P:Program} {B:aJ} {Q:Tr AV->List Nat->Option Code->AS->Prop} {s:AS} {t:Tr AV} {nt:Nat}
end
end Go.Rn
namespace Go.Rn
end Go.Rn
namespace Go.Rn
open Go.RowKit
noncomputable section
end
section
variable {P:Program} {s s1:AS} {Yw:aK} {t:Tr AV}
end
end Go.Rn
namespace Go.Rn
open Go.RowKit
noncomputable section
def Fin(P:Program)(rs:List ResultVar)(R:AV->AS->Prop):Tr AV->List Nat->Option Code->AS->Prop:=fun t d j s=>∃x s3,finish P rs ⟨0,t,0,[],d,none⟩ j s= .ok x s3/\R x s3
end
section
variable {P:Program} {B:aJ} {ρ:Ren} {w:World} {s s1:AS} {Yw:aK}
theorem EF(rs:List ResultVar)(fr:AF)(j:Option Code):finish P rs fr j=finish P rs ⟨0,fr.tmps,0,[],fr.defers,none⟩ j:=rfl
theorem au.calls(hP:bR P){g:FuncId}{fn:Func}{body:Code}{args:List AV}{vs:Array Value}{R:AV->AS->Prop}(cj:P.funcs[g]? =some fn)(cw:fn.body=some body)(oz:max fn.ntmps args.length<=top)(H:au P B s.nx (Fin P fn.results.toList R) ⟨g,dt args,max fn.ntmps args.length,[.code body],[],none⟩ s)(fi:bB s)(r:Rel B ρ s.h w)(hg:gC ρ)(hf:∀k,s.nx<=k->k<top->ρ k=none)(hv:ay ρ args vs.toList):
 Calls P g vs w fun e w'=>∃v x s3,e= .returned v/\R x s3/\s.nx<=s3.nx/\bB s3/\kh B ρ s s3 w x v w':=by
 intro cs;let b:Frame:={(default:Frame) with fn:=g,kind:=.normal,roundOf:=none};let a:Act:={tmps:=vs++Array.replicate (fn.ntmps - vs.size) undef,defers:=[]};have wZ:Frame.enter P g vs .normal=b.atR a [.code body]:=by simp[Frame.enter,Frame.atR,cj,cw,b,a]
 have bC:Fr ρ ⟨g,dt args,max fn.ntmps args.length,[.code body],[],none⟩ b a:=⟨rfl,rfl,trivial,rfl,.cons (hP.code g fn body cj cw) .nil⟩;have aw:At B ρ s (max fn.ntmps args.length) (dt args) w a:=⟨Hf hv _ oz,r,hg,oz,fi⟩;obtain⟨fr,j,s2,σ,a',w',⟨x,s3,pA,hR⟩,en,e0,GO,e1,e2,e3,e4,e5,e6,e7,e8⟩:=H ρ w b a cs bC aw hf;have OQ:finish P fn.results.toList fr j s2= .ok x s3:=by rw[EF];exact pA
 have zM:bB s2:=e2.cm;have ahy:Ext s.nx s2.nx ρ σ:=by
  refine⟨fun k y hk=>?_,fun k gp hk=>?_⟩
  ·by_cases qt:k<top
   ·by_cases q:s.nx<=k
    ·rw[hf k q qt] at hk;cases hk
    ·rw[e0 k aj qt];exact hk
   ·exact GO k y aj hk
  ·by_cases q:k<s.nx
   ·exact e0 k q gp
   ·rw[e1 k aj gp,hf k aj gp]
 obtain⟨hj,u2,s4,rs,h7,h9,hx⟩:=LN OQ;have oT:bB s4:=(Yv.qQ _).cm zM h7;have pL:Leaves j fr.todo:=e7;obtain⟨d1,d2,w2,d3,d4,d5⟩:=He (P:=P) (fr:=b) (cs:=cs) zM e2.rel e3 h7;obtain⟨f1,f2,us,f3,f4⟩:=Hb (P:=P) (w:=w2) e2.tr oT d3 h9;have jl:bB s3:=(Yv.si P fr.tmps _).cm oT h9;have F7:Steps P (lone (b.atR a' fr.todo) cs w')<|lone {b.atR a' fr.todo with mode:=.returning} cs w':=by
  rcases hj with rfl|rfl
  ·have e:fr.todo=[]:=pL;rw[e];exact .one<|stepR_end rfl
  ·obtain⟨k,e⟩:=pL;rw[e];exact .one<|stepR_ret rfl
 have xp:=d5 {b.atR a' fr.todo with mode:=.returning} cs jD rfl;have lu:(results fn a'.tmps).run P w2= .ok (og us) w2:=by
  unfold results;rw[Array.mapM_eq_mapM_toList];simp only[Sem.run_bind,map_eq_pure_bind,Sem.run_pure];refine Eq.trans (congrArg (fun r:Result (List Value)=>(r.andThen fun a w'=>Result.ok a.toArray w').andThen fun a w'=>Result.ok (if h:a.size=1 then a[0] else Value.tuple a) w') f3) ?_;have:∀l:List Value,(Result.ok (if h:l.toArray.size=1 then l.toArray[0] else Value.tuple l.toArray) w2:Result Value)= .ok (og l) w2:=by
   intro l
   match l with
   |[]=>rfl
   |[v]=>rfl
   |v::v2::l=>simp[og]
  exact this us
 have Xn:s3.nx=s2.nx:=by rw[f2,d1]
 have hle:s.nx<=s3.nx:=by rw[Xn];exact en
 refine⟨.returned<|og us,w2,{b.atR a' fr.todo with mode:=.returning,defers:=[]},⟨_,x,s3,rfl,hR,hle,jl,?_⟩,?_,rfl,?_⟩
 ·exact⟨σ,by rw[Xn];exact ahy,by rw[hx];exact Mf f4,by rw[f1];exact d3,e4.trans d4⟩
 ·rw[wZ];exact Steps.trans e8<|Steps.trans F7 xp
 ·exact⟨rfl,rfl,rfl,fn,cj,lu⟩
end
end Go.Rn
namespace Go.Rn
variable {P:Program} {Yw:aK} {nt:Nat} {ops:Array Oper} {t t1:Tr AV}
theorem sd{P:Program}{w:World}{f:FuncId}{fn:Func}{body:Code}{vs:Array Value}(cj:P.funcs[f]? =some fn)(cw:fn.body=some body)(dD:(fn.name == "runtime.NumGoroutine")=false):(callFunc f vs).run P w= .ok (.enter f vs) w:=by
 have FI:(program).run P w= .ok P w:=rfl;have hn:fn.name≠ "runtime.NumGoroutine" :=by simpa using dD
 simp only[callFunc,Sem.run_bind,FI,Result.andThen_ok,cj,dD,cw];simp
theorem uy{K:Nat}:∀{l:List<|List AV},(∀c∈l,c.length=K)->l.flatten.length=l.length*K
 |[],_=>by simp
 |c::l,h=>by rw[List.flatten_cons,List.length_append,h c List.mem_cons_self,uy fun c' h'=>h c'<|List.mem_cons_of_mem _ h',List.length_cons,Nat.add_mul,Nat.one_mul];omega
theorem aeq{s:AS}{ty yt:TypeId}{x y:Operand}{k:IntKind}{a b c:Int}(hx:aH t x=some (.int k a))(hy:aH t y=some (.int k b))(h0:b≠0)(h:a.tmod b=c):(dG P<|.binOp .rem ty x y yt).val Yw t s= .ok (.int k c) s:=acN hx hy rfl rfl (by subst h;simp only[C8,decide_eq_false h0])
end Go.Rn
namespace Go.Rn
open Go.RowKit
section
variable {P:Program} {Yw:aK} {nt:Nat} {ops:Array Oper} {t t1:Tr AV}
end
noncomputable section
end
end Go.Rn
namespace Go.Rn
open Go.RowKit
variable {t1:Tr AV} {g:Option<|Nat×Bool} {d:Option Tmp} {v:AV} {id:Nat} {c:Code}
noncomputable section
instance:Inhabited<|Tr AV:=⟨.nil⟩
def Chunk(P:Program)(Yw:aK)(G:AF->AS->Prop):Prop:=∀(k:Nat) (fr aO:AF) (s s1:AS),dV P Yw k fr s= .ok (.go aO) s1->G aO s1->G fr s
def Ev(P:Program)(Yw:aK)(R:AF->Option Code->AS->Prop)(fr:AF)(s:AS):Prop:=∃k aO j s1,dV P Yw k fr s= .ok (.leave aO j) s1/\R aO j s1
def zn(P:Program)(B:aJ)(J:Nat)(Q:Tr AV->List Nat->Option Code->AS->Prop)(fr:AF)(s:AS):Prop:=J<=s.nx->au P B J Q fr s
def xM(P:Program)(Yw:aK)(G:AF->AS->Prop)(f nt:Nat)(K:List Item)(ops:Array Oper)(i:Nat)(t:Tr AV)(s:AS):Prop:=∃t1 s1,pe P Yw nt ops i (ops.size - i) t s= .ok t1 s1/\G ⟨f,t1,nt,K,[],none⟩ s1
def qw(P:Program)(Yw:aK)(G:AF->AS->Prop)(f nt:Nat)(K:List Item)(ops:Array Oper)(acc:List Met)(i:Nat)(t:Tr AV)(s:AS):Prop:=∃t1 ms s1,tC P Yw nt ops i (ops.size - i) t s= .ok (t1,ms) s1/\qd (Region.before ops) (acc++ms) (acc++ms)=true/\G ⟨f,t1,nt,K,[],none⟩ s1
def IV(s:AS):AS:=⟨s.h,s.nx,s.nx,[],[]⟩
def Df(s s1:AS):AS:=⟨s1.h,s1.nx,s.mark,below s.mark s1.rd++s.rd,below s.mark s1.wr++s.wr⟩
def J2(i:Nat)(s s1:AS):Met:=⟨i,below s.nx s1.rd,below s.nx s1.wr,s.nx,s1.nx⟩
end
section
variable {P:Program} {B:aJ} {J:Nat} {Q:Tr AV->List Nat->Option Code->AS->Prop} {s s1:AS} {Yw:aK} {t:Tr AV} {ops:Array Oper} {f nt i:Nat} {K:List Item} {G:AF->AS->Prop} {acc:List Met}
theorem Chunk.D6(bH:P.follows .mixedOrders=true)(hc:fQ P B Yw)(hl:∀t a,Yv<|Yw t a):Chunk P Yw<|zn P B J Q:=by intro k fr aO s s1 h H h0 ρ w b a cs bC aw hf;have le:=(Yv.dV P hl k fr).le aw.cm h;exact au.chunk bH hc hl h h0 (H<|Nat.le_trans h0 le) ρ w b a cs bC aw hf
theorem SH:∀{k m:Nat} {fr aO:AF} {s s1:AS},dV P Yw k fr s= .ok (.go aO) s1->dV P Yw (k+m) fr s=dV P Yw m aO s1
 |0,m,fr,aO,s,s1,h=>by cases h;rw[Nat.zero_add]
 |k+1,m,fr,aO,s,s1,h=>by
  obtain⟨y,s2,h1,h2⟩:=M.aN (show((iZ P Yw fr).bind fun x=> @bq.rec (fun _=>M bq) (dV P Yw k) (fun fr j=>M.pure<|.leave fr j) x) s= .ok _ s1 from h);cases y with
  |go pM=>rw[show k+1+m=(k+m)+1 by omega,Ay h1];exact SH h2
  |leave pM j'=>cases h2
theorem Chunk.ev{R:AF->Option Code->AS->Prop}:Chunk P Yw<|Ev P Yw R:=by intro k fr aO s s1 h ⟨m,gq,j,s2,h1,h2⟩;exact⟨k+m,gq,j,s2,by rw[SH h];exact h1,h2⟩
theorem Chunk.zJ(hG:Chunk P Yw G)(De:c= .region id (opsOf c) false)(H:xM P Yw G f nt K (opsOf c) 0 t s):G ⟨f,t,nt,.code c::K,[],none⟩ s:=by
 obtain⟨t1,s1,h,H⟩:=H;refine hG 1 _ _ _ s1 (Ay ?_) H;have ht:((opsOf c).toList.drop 0).take ((opsOf c).size - 0)=(opsOf c).toList:=by rw[List.drop_zero,Nat.sub_zero, ←Array.length_toList,List.take_length]
 unfold pe at h;rw[ht] at h;rw[De];show((je P Yw nt (opsOf c) (opsOf c).toList t).bind fun t=>M.pure<|bq.go ⟨f,t,nt,K,[],none⟩) s=_;rw[M.bK h];rfl
theorem Chunk.ahz(hG:Chunk P Yw G)(De:c= .region id (opsOf c) true)(H:qw P Yw G f nt K (opsOf c) [] 0 t s):G ⟨f,t,nt,.code c::K,[],none⟩ s:=by
 obtain⟨t1,ms,s1,h,hm,H⟩:=H;rw[List.nil_append] at hm;refine hG 1 _ _ _ s1 (Ay ?_) H;have ht:((opsOf c).toList.drop 0).take ((opsOf c).size - 0)=(opsOf c).toList:=by rw[List.drop_zero,Nat.sub_zero, ←Array.length_toList,List.take_length]
 unfold tC at h;rw[ht] at h;rw[De];show((pX P Yw nt (opsOf c) t).bind fun t=>M.pure<|bq.go ⟨f,t,nt,K,[],none⟩) s=_;have:pX P Yw nt (opsOf c) t s= .ok t1 s1:=by unfold pX;rw[M.bK h];show aG (qd (Region.before<|opsOf c) ms ms) (M.pure t1) s1=_;rw[hm,dy];rfl
 rw[M.bK this];rfl
theorem xM.done(h:Nat.ble ops.size i=true)(H:G ⟨f,t,nt,K,[],none⟩ s):xM P Yw G f nt K ops i t s:=by refine⟨t,s,?_,H⟩;rw[show ops.size - i=0 by have:=aM.1 h;omega];unfold pe;rw[List.take_zero];rfl
theorem qw.done(h:(Nat.ble ops.size i&&qd (Region.before ops) acc acc)=true)(H:G ⟨f,t,nt,K,[],none⟩ s):qw P Yw G f nt K ops acc i t s:=by obtain⟨h1,h2⟩:=and_true.1 h;refine⟨t,[],s,?_,by rw[List.append_nil];exact h2,H⟩;rw[show ops.size - i=0 by have:=aM.1 h1;omega];unfold tC;rw[List.take_zero];rfl
theorem xM.step(hn:Nat.blt i ops.size=true)(h:pe P Yw nt ops i 1 t s= .ok t1 s1)(H:xM P Yw G f nt K ops (i+1) t1 s1):xM P Yw G f nt K ops i t s:=by obtain⟨t2,s2,h1,h2⟩:=H;have bZ:=(blt_eq _ _).mp hn;refine⟨t2,s2,?_,h2⟩;rw[show ops.size - i=1+(ops.size - (i+1)) by omega];exact R2 h h1
theorem qw.step{ms:List Met}(hn:Nat.blt i ops.size=true)(h:tC P Yw nt ops i 1 t s= .ok (t1,ms) s1)(H:qw P Yw G f nt K ops (acc++ms) (i+1) t1 s1):qw P Yw G f nt K ops acc i t s:=by obtain⟨t2,ms2,s2,h1,h2,h3⟩:=H;have bZ:=(blt_eq _ _).mp hn;refine⟨t2,_,s2,?_,by rw[←List.append_assoc];exact h2,h3⟩;rw[show ops.size - i=1+(ops.size - (i+1)) by omega];exact Tm rfl aj h h1
theorem Uh{op:Op}(h:xJ ops i=some (op,d,g)):Nat.blt i ops.size=true:=by obtain⟨o,e,_⟩:=HW h;rw[blt_eq];exact(Array.getElem?_eq_some_iff.1 e).1
noncomputable def Jx(ops:Array Oper)(g:Option<|Nat×Bool)(t:Tr AV):Bool:=
 match g with
 |none=>true
 |some g=>sH ops t g.1&&p0 ops g t
theorem aer{op:Op}(ho:xJ ops i=some (op,d,g))(hw:Jx ops g t=true)(h:(dG P op).val Yw t s= .ok v s1)(hp:jd nt t d v=some t1):pe P Yw nt ops i 1 t s= .ok t1 s1:=by
 cases g with
 |none=>exact cz ho h hp
 |some g=>obtain⟨h1,h2⟩:=and_true.1 (show(sH ops t g.1&&p0 ops g t)=true from hw);exact ahx ho h1 h2 h hp
theorem acP{op:Op}(ho:xJ ops i=some (op,d,g))(hw:Jx ops g t=true)(h:(dG P op).val Yw t (IV s)= .ok v s1)(hp:jd nt t d v=some t1):tC P Yw nt ops i 1 t s= .ok (t1,[J2 i s s1]) (Df s s1):=by
 obtain⟨o,e,rfl,rfl,e3⟩:=HW ho;unfold tC;have hl:(ops.toList.drop i).take 1=[o]:=by
  have h1:ops.toList[i]? =some o:=by rw[Array.getElem?_toList];exact e
  obtain⟨hi,e⟩:=List.getElem?_eq_some_iff.1 h1;rw[List.drop_eq_getElem_cons hi,e];rfl
 rw[hl];have ha:gM P Yw nt ops o t (IV s)= .ok t1 s1:=by
  unfold gM A9;rw[e3];cases g with
  |none=>show rG (dG P o.op) o.dst Yw nt t _=_;unfold rG;rw[M.bK h,hp];rfl
  |some g=>obtain⟨h1,h2⟩:=and_true.1 (show(sH ops t g.1&&p0 ops g t)=true from hw);show te ops g (dG P o.op) o.dst Yw nt t _=_;unfold te;rw[h1,h2,dy];show((dG P o.op).val Yw t).bind (fun v=>lift<|jd nt t o.dst v) _=_;rw[M.bK h,hp];rfl
 have hal:alone i (gM P Yw nt ops o t) s= .ok (t1,J2 i s s1) (Df s s1):=by obtain⟨hh,nx,mark,rd,wr⟩:=s;obtain⟨xV,pI,OM,gm,nN⟩:=s1;unfold alone;simp only[yy];show(@R.rec _ (fun _=>R<|Tr AV×Met) .bad (fun a s1=>_)<|gM P Yw nt ops o t<|IV ⟨hh,nx,mark,rd,wr⟩)=_;rw[ha];rfl
 show((alone i<|gM P Yw nt ops o t).bind fun x=>(mR P Yw nt ops [] (i+1) x.1).bind fun y=>M.pure (y.1,x.2::y.2)) s=_;rw[M.bK hal];rfl
def Pr:BinOp->Int->Int->Option Bool
 | .lss,a,b=>some<|decide<|a<b
 | .leq,a,b=>some<|decide<|a<=b
 | .gtr,a,b=>some<|decide<|a>b
 | .geq,a,b=>some<|decide<|a>=b
 | .eql,a,b=>some<|a == b
 | .neq,a,b=>some<|!(a == b)
 |_,_,_=>none
theorem aes{op:BinOp}{ty yt:TypeId}{x y:Operand}{k:IntKind}{a b:Int}{r:Bool}(hx:aH t x=some (.int k a))(hy:aH t y=some (.int k b))(h:Pr op a b=some r):(dG P<|.binOp op ty x y yt).val Yw t s= .ok (.bool r) s:=by cases op<;>simp only[Pr,Option.some.injEq,reduceCtorEq] at h<;>exact acM hx hy rfl rfl (by subst h;rfl)
theorem zn.start(h:Nat.ble J s.nx=true){fr:AF}(H:zn P B J Q fr s):au P B J Q fr s:=H<|aM.1 h
theorem EV{g:FuncId}{fn:Func}(h:P.funcs[g]? =some fn)(hb:fn.body.isSome=true):fn.body=some (aS P g []):=by
 unfold aS Vd;rw[h];simp only[sr];cases e:fn.body with
 |none=>rw[e] at hb;cases hb
 |some c=>rfl
end
end Go.Rn
namespace Go.Rn
open Go.RowKit
variable {α:Type} {l:List α} {i K n j:Nat} {enc:α->List AV} {c x c':α}
theorem SI{α:Type}(u v:Option α):∀(p q:List Bool) (t:Tr α),p≠q->Tr.l6 u p (Tr.l6 v q t)=Tr.l6 v q (Tr.l6 u p t)
 |[],[],_,h=>absurd rfl h
 |[],b::q,t,_=>by
  cases t with
  |nil=>cases b<;>rfl
  |node l x r=>cases b<;>rfl
 |a::p,[],t,_=>by
  cases t with
  |nil=>cases a<;>rfl
  |node l x r=>cases a<;>rfl
 |a::p,b::q,t,h=>by
  have ih:∀t:Tr α,a=b->Tr.l6 u p (Tr.l6 v q t)=Tr.l6 v q (Tr.l6 u p t):=fun t e=>SI u v p q t (fun e2=>h<|by rw[e,e2]);cases t with
  |nil=>cases a<;>cases b<;>simp[Tr.ME,Tr.Ez,ih]
  |node l x r=>cases a<;>cases b<;>simp[Tr.Ez,ih]
theorem Mj(u v:Option α):∀(p:List Bool) (t:Tr α),Tr.l6 u p (Tr.l6 v p t)=Tr.l6 u p t
 |[],t=>by cases t<;>rfl
 |a::p,t=>by
  cases t with
  |nil=>cases a<;>simp[Tr.ME,Tr.Ez,Mj u v p]
  |node l x r=>cases a<;>simp[Tr.Ez,Mj u v p]
theorem put_comm(t:Tr α)(n m:Nat)(u v:Option α)(hn:n<top)(h:n≠m):(t.put m v).put n u=(t.put n u).put m v:=SI u v _ _ t fun e=>T5 hn (fun e2=>h e2.symm) e.symm
theorem abC(t:Tr α)(n:Nat)(u v:Option α):(t.put n v).put n u=t.put n u:=Mj u v _ t
theorem Tp:∀(l:List α) (i:Nat) (t:Tr α) (n:Nat),n<i->n<top->(Tr.fill l i t).put n (some x)=Tr.fill l i (t.put n<|some x)
 |[],_,_,_,_,_=>rfl
 |y::l,i,t,n,h,hn=>by show(Tr.fill l (i+1)<|t.put i<|some y).put n (some x)=Tr.fill l (i+1) ((t.put n<|some x).put i<|some y);rw[Tp l (i+1) _ n aj hn,put_comm t n i _ _ hn aj]
theorem SJ:∀(l:List α) (i k:Nat) (t:Tr α),k<l.length->i+k<top->(Tr.fill l i t).put (i+k) (some x)=Tr.fill (l.set k x) i t
 |[],_,_,_,h,_=>by simp at h
 |y::l,i,0,t,_,h=>by show(Tr.fill l (i+1)<|t.put i<|some y).put i (some x)=Tr.fill l (i+1) (t.put i<|some x);rw[Tp l (i+1) _ i aj h,abC]
 |y::l,i,k+1,t,h,ht=>by show(Tr.fill l (i+1)<|t.put i<|some y).put (i+(k+1)) (some x)=Tr.fill (l.set k x) (i+1) (t.put i<|some y);rw[show i+(k+1)=i+1+k by omega];exact SJ l (i+1) k _ (by simpa using h) aj
def ig:List α->Nat->List α->List α
 |l,_,[]=>l
 |l,k,x::r=>ig (l.set k x) (k+1) r
theorem SK{α:Type}:∀(r l:List α) (k:Nat),k+r.length<=l.length->l.length<=top->Tr.fill r k (Tr.fill l 0 .nil)=Tr.fill (ig l k r) 0 .nil
 |[],_,_,_,_=>rfl
 |x::r,l,k,h,ht=>by simp only[List.length_cons] at h;show Tr.fill r (k+1) ((Tr.fill l 0 .nil).put k<|some x)=Tr.fill (ig (l.set k x) (k+1) r) 0 .nil;have:=SJ (x:=x) l 0 k .nil aj aj;rw[Nat.zero_add] at this;rw[this];exact SK r (l.set k x) (k+1) (by rw[List.length_set];omega) (by rw[List.length_set];exact ht)
theorem Nt{α:Type}:∀(r l:List α) (k i:Nat),k+r.length<=l.length->(ig l k r)[i]? =if k<=i/\i<k+r.length then r[i - k]? else l[i]?
 |[],l,k,i,_=>by show l[i]? =_;simp;intro h1 h2;omega
 |x::r,l,k,i,h=>by
  simp only[List.length_cons] at h ⊢;show(ig (l.set k x) (k+1) r)[i]? =_;rw[Nt r (l.set k x) (k+1) i (by rw[List.length_set];omega)];by_cases e:i=k
  ·subst e;rw[if_neg aj,if_pos aj,Nat.sub_self,List.getElem?_set];simp;omega
  ·by_cases q:k+1<=i/\i<k+1+r.length
   ·rw[if_pos q,if_pos aj];obtain⟨j,rfl⟩:∃j,i=k+1+j:=⟨i - (k+1),by omega⟩;rw[show k+1+j - (k+1)=j by omega,show k+1+j - k=j+1 by omega];simp
   ·rw[if_neg q,if_neg aj,List.getElem?_set_ne aj]
theorem Az{K:Nat}{β:Type}:∀{L:List<|List β} {i j:Nat},(∀c∈L,c.length=K)->i<L.length->j<K->∀{c:List β},L[i]? =some c->L.flatten[i*K+j]? =c[j]?
 |[],_,_,_,h,_,_,_=>by simp at h
 |x::L,0,j,hL,_,hj,c,hc=>by simp at hc;subst hc;have hx:=hL x List.mem_cons_self;rw[List.flatten_cons,Nat.zero_mul,Nat.zero_add,List.getElem?_append_left aj]
 |x::L,i+1,j,hL,hi,hj,c,hc=>by have hx:=hL x List.mem_cons_self;rw[List.flatten_cons,List.getElem?_append_right (by rw[hx,Nat.add_mul];omega),hx,show(i+1)*K+j - K=i*K+j by rw[Nat.add_mul];omega];exact Az (fun c hc=>hL c<|List.mem_cons_of_mem _ hc) (by simpa using hi) hj (by simpa using hc)
theorem abD(he:∀x,(enc x).length=K){r:List AV}(hc:l[i]? =some c)(hr:enc c'=ig (enc c) j r)(hj:j+r.length<=K):ig (l.map enc).flatten (i*K+j) r=((l.set i c').map enc).flatten:=by
 have hi:=(List.getElem?_eq_some_iff.1 hc).1;have dJ:∀(l:List α),∀c∈l.map enc,c.length=K:=fun l c hc=>by obtain⟨x,_,rfl⟩:=List.mem_map.1 hc;exact he x
 have yb:∀l:List α,(l.map enc).flatten.length=l.length*K:=fun l=>by rw[uy<|dJ l,List.length_map]
 have hmul:i*K+K<=l.length*K:=by have:=Nat.mul_le_mul_right K hi;rw[Nat.succ_mul] at this;exact this
 apply List.ext_getElem?;intro m;rw[Nt _ _ _ _ (by rw[yb];omega)];by_cases hm:m<l.length*K
 ·have hK:0<K:=by
   cases K with
   |zero=>simp at hm
   |succ k=>omega
  have hq:m / K<l.length:=by rw[Nat.div_lt_iff_lt_mul hK];exact hm
  have D7:m=m / K*K+m % K:=by rw[Nat.mul_comm];exact(Nat.div_add_mod m K).symm
  have F8:m % K<K:=Nat.mod_lt _ hK;have hold:(l.map enc).flatten[m]? =(enc<|l[m / K]'hq)[m % K]? :=by
   conv=>lhs;rw[D7]
   exact Az (dJ l) (by rw[List.length_map];exact hq) F8 (by rw[List.getElem?_map,List.getElem?_eq_getElem hq];rfl)
  have dY:m / K<(l.set i c').length:=by rw[List.length_set];exact hq
  have vx:((l.set i c').map enc).flatten[m]? =(enc<|(l.set i c')[m / K]'dY)[m % K]? :=by
   conv=>lhs;rw[D7]
   exact Az (dJ _) (by rw[List.length_map];exact dY) F8 (by rw[List.getElem?_map,List.getElem?_eq_getElem dY];rfl)
  rw[vx,hold];by_cases e:m / K=i
  ·have hci:l[m / K]'hq=c:=by
    have:l[m / K]? =some c:=by rw[e];exact hc
    rw[List.getElem?_eq_getElem hq] at this;injection this
   have qF:(l.set i c')[m / K]'dY=c':=by simp[e]
   rw[qF,hci,hr,Nt _ _ _ _ (by rw[he];exact hj)];have alI:m=i*K+m % K:=by rw[e] at D7;exact D7
   by_cases q:j<=m % K/\m % K<j+r.length
   ·rw[if_pos aj,if_pos q];congr 1;omega
   ·rw[if_neg (by intro q2;apply q;omega),if_neg q]
  ·have qF:(l.set i c')[m / K]'dY=l[m / K]'hq:=by rw[List.getElem_set_ne fun e2=>e e2.symm]
   rw[qF,if_neg];intro q;apply e;have h1:m<(i+1)*K:=by rw[Nat.add_mul];omega
   have h2:i*K<=m:=by omega
   have h3:=(Nat.le_div_iff_mul_le hK).2 h2;have h4:=(Nat.div_lt_iff_lt_mul hK).2 h1;omega
 ·rw[if_neg aj,List.getElem?_eq_none (by rw[yb];omega),List.getElem?_eq_none (by rw[yb,List.length_set];omega)]
noncomputable section
def aT(n:Nat)(s:AS):AS:= @Bool.rec (fun _=>AS) s ⟨s.h,s.nx,s.mark,n::s.rd,s.wr⟩<|Nat.blt n s.mark
def fm(n:Nat)(o:Option ae)(s:AS):AS:= @Bool.rec (fun _=>AS) ⟨s.h.put n o,s.nx,s.mark,s.rd,s.wr⟩ ⟨s.h.put n o,s.nx,s.mark,n::s.rd,n::s.wr⟩<|Nat.blt n s.mark
end
section
variable {P:Program} {s:AS} {Yw:aK} {t:Tr AV}
theorem lJ{o:ae}(h1:Nat.blt n s.nx=true)(h2:s.h.get n=some o):bt n s= .ok o (aT n s):=by obtain⟨hh,nx,mark,rd,wr⟩:=s;have e1:Nat.blt n nx=true:=h1;have e2:hh.get n=some o:=h2;show @Bool.rec (fun _=>R ae) .bad (@Option.rec ae (fun _=>R ae) .bad (fun o=> @Bool.rec (fun _=>R ae) (.ok o ⟨hh,nx,mark,rd,wr⟩) (.ok o ⟨hh,nx,mark,n::rd,wr⟩)<|Nat.blt n mark)<|hh.get n) (Nat.blt n nx)=_;rw[e1,e2];show @Bool.rec (fun _=>R ae) (.ok o ⟨hh,nx,mark,rd,wr⟩) (.ok o ⟨hh,nx,mark,n::rd,wr⟩) (Nat.blt n mark)= .ok o (@Bool.rec (fun _=>AS) ⟨hh,nx,mark,rd,wr⟩ ⟨hh,nx,mark,n::rd,wr⟩<|Nat.blt n mark);cases Nat.blt n mark<;>rfl
theorem fL(n:Nat)(s:AS):(aT n s).h=s.h/\(aT n s).nx=s.nx/\(aT n s).mark=s.mark:=by unfold aT;cases Nat.blt n s.mark<;>exact⟨rfl,rfl,rfl⟩
theorem wN{o:Option ae}{p:ae}(h1:Nat.blt n s.nx=true)(h2:s.h.get n=some p)(h3:p.dh=false)(ht:Nat.blt n top=true):bJ n o s= .ok () (fm n o s):=by obtain⟨hh,nx,mark,rd,wr⟩:=s;have e1:(Nat.blt n nx&&Nat.blt n top)=true:=and_true.2 ⟨h1,ht⟩;have e2:hh.get n=some p:=h2;show @Bool.rec (fun _=>R Unit) .bad (@Option.rec ae (fun _=>R Unit) .bad (fun p=> @Bool.rec (fun _=>R Unit) (@Bool.rec (fun _=>R Unit) (.ok () ⟨hh.put n o,nx,mark,rd,wr⟩) (.ok () ⟨hh.put n o,nx,mark,n::rd,n::wr⟩)<|Nat.blt n mark) .bad p.dh)<|hh.get n) (Nat.blt n nx&&Nat.blt n top)=_;rw[e1,e2];show @Bool.rec (fun _=>R Unit) (@Bool.rec (fun _=>R Unit) (.ok () ⟨hh.put n o,nx,mark,rd,wr⟩) (.ok () ⟨hh.put n o,nx,mark,n::rd,n::wr⟩)<|Nat.blt n mark) .bad p.dh=_;rw[h3];show @Bool.rec (fun _=>R Unit) (.ok () ⟨hh.put n o,nx,mark,rd,wr⟩) (.ok () ⟨hh.put n o,nx,mark,n::rd,n::wr⟩) (Nat.blt n mark)= .ok () (@Bool.rec (fun _=>AS) ⟨hh.put n o,nx,mark,rd,wr⟩ ⟨hh.put n o,nx,mark,n::rd,n::wr⟩<|Nat.blt n mark);cases Nat.blt n mark<;>rfl
theorem yB(he:∀x,(enc x).length=K)(l:List α):(l.map enc).flatten.length=l.length*K:=by rw[uy (K:=K) (fun c hc=>by obtain⟨x,_,rfl⟩:=List.mem_map.1 hc;exact he x),List.length_map]
theorem Ui(he:∀x,(enc x).length=K){k:Nat}(hc:l[i]? =some c)(hj:j+k<=K):i*K+j+k<=(l.map enc).flatten.length/\((l.map enc).flatten.drop<|i*K+j).take k=((enc c).drop j).take k:=by
 have hi:=(List.getElem?_eq_some_iff.1 hc).1;have hmul:i*K+K<=l.length*K:=by have:=Nat.mul_le_mul_right K hi;rw[Nat.succ_mul] at this;exact this
 refine⟨by rw[yB he];omega,?_⟩;apply List.ext_getElem?;intro m;rw[List.getElem?_take,List.getElem?_take];split
 ·rename_i hm;rw[List.getElem?_drop,List.getElem?_drop,Nat.add_assoc];exact Az (fun c hc=>by obtain⟨x,_,rfl⟩:=List.mem_map.1 hc;exact he x) (by rw[List.length_map];exact hi) aj (by rw[List.getElem?_map,hc];rfl)
 ·rfl
theorem Tq(h:l[i]? =some c):(l.set i c')[i]? =some c':=by have hi:=(List.getElem?_eq_some_iff.1 h).1;rw[List.getElem?_set_self hi]
end
end Go.Rn
namespace Go.Rn
open Go.RowKit
def Ts(W:World):Ren:=fun k=>if k<fI then some (k,match W.heap[k]? with|some (.cells c _ _)=>c.size|_=>0) else none
end Go.Rn
namespace Go.Rn
variable {ops:Array Oper}
def aet(ops:Array Oper):Bool:=ops.toList.zipIdx.all fun x=>x.1.after.toList.all fun e=> !Region.binds .any e||decide (e.on<x.2)
def OS(ops:Array Oper)(x y:Oper):Bool:=
 match x.dst with
 |none=>false
 |some d=>(y.looksAt ops).contains d||y.dst == some d
def aeu(ops:Array Oper)(b:Array Nat):Bool:=ops.toList.zipIdx.all fun x=>ops.toList.zipIdx.all fun y=> !(OS ops x.1 y.1)||(Nat.beq x.2 y.2|| !loose b x.2 y.2)
def Ps(ops:Array Oper):Bool:=aet ops&&aeu ops (CheckFast.beforeF ops)
def ss:Code->Bool
 | .seq a b=>ss a&&ss b
 | .cond _ a b=>ss a&&ss b
 | .block _ b=>ss b
 | .loop b=>ss b
 | .scope b=>ss b
 | .region _ ops draw=> !draw||Ps ops
 | .rangeFunc _ _ a b=>ss a&&ss b
 |_=>true
def afT(P:Program):Bool:=P.funcs.toList.all fun fn=>match fn.body with
 |none=>true
 |some c=>ss c
theorem LQ{i:Nat}{o:Oper}(h:ops[i]? =some o):(o,i)∈ops.toList.zipIdx:=by rw[List.mem_zipIdx_iff_getElem?];simpa using h
theorem acQ(h:Ps ops=true):Jr ops:=by
 unfold Ps at h;obtain⟨h1,h2⟩:=Bool.and_eq_true_iff.1 h;rw[CheckFast.beforeF_eq] at h2;refine⟨fun j o e ho hm hb=>?_,fun i j x y d lz hx hy hd cP=>?_⟩
 ·have:=List.all_eq_true.1 (List.all_eq_true.1 h1 _<|LQ ho) e<|Array.mem_toList_iff.2 hm;simp only[hb,Bool.not_true,Bool.false_or,decide_eq_true_eq] at this;exact this
 ·have:=List.all_eq_true.1 (List.all_eq_true.1 h2 _<|LQ hx) _<|LQ hy;have hc:OS ops x y=true:=by
   unfold OS;rw[hd];simp only[Bool.or_eq_true,beq_iff_eq];rcases cP with q|q
   ·exact .inl<|List.contains_iff_mem.2 q
   ·exact .inr q
  simp only[hc,Bool.not_true,Bool.false_or,Bool.or_eq_true,Bool.not_eq_true'] at this;rcases this with q|q
  ·exact absurd (Nat.beq_eq.mp q) lz
  ·exact q
theorem ZJ:∀{c:Code},ss c=true->iv c:=by
 intro c;induction c with
 |seq a b BC BD=>intro h;obtain⟨h1,h2⟩:=Bool.and_eq_true_iff.1 h;exact⟨BC h1,BD h2⟩
 |cond _ a b BC BD=>intro h;obtain⟨h1,h2⟩:=Bool.and_eq_true_iff.1 h;exact⟨BC h1,BD h2⟩
 |block _ b ih=>intro h;exact ih h
 |loop b ih=>intro h;exact ih h
 |scope b ih=>intro h;exact ih h
 |region id ops draw=>intro h hd;subst hd;exact acQ h
 |rangeFunc _ _ a b BC BD=>intro h;obtain⟨h1,h2⟩:=Bool.and_eq_true_iff.1 h;exact⟨BC h1,BD h2⟩
 |_=>intro _;trivial
theorem alc{P:Program}(hm:P.follows .mixedOrders=true)(h:afT P=true):bR P:=by refine⟨hm,fun f fn body hf hb=>?_⟩;have:=List.all_eq_true.1 h fn (List.mem_of_getElem?<|by simpa using hf);rw[hb] at this;exact ZJ this
end Go.Rn
namespace Go.Rn
open Go.RowKit
noncomputable section
end
end Go.Rn
namespace Go.Rn
open Go.RowKit
noncomputable section
end
section
variable {P:Program} {s s1:AS} {Yw:aK} {t:Tr AV}
end
end Go.Rn
namespace Go.Rn
end Go.Rn
namespace Go.Rn
open Go.RowKit
variable {ρ σ:Ren} {x:AV} {v:Value}
theorem acR(k:IntKind)(lo hi:Int)(n:Int)(h:lo<=n/\n<=hi)(hk:(k.signed=true/\lo= -(2 ^ (k.bits - 1):Int)/\hi=(2 ^ (k.bits - 1):Int) - 1/\(2 ^ k.bits:Int)=2*(2 ^ (k.bits - 1):Int)/\(0:Int)<(2 ^ (k.bits - 1):Int))\/(k.signed=false/\lo=0/\hi=(2 ^ k.bits:Int) - 1)):IntKind.wrap k n=n:=by
 unfold IntKind.wrap;rcases hk with⟨hs,h1,h2,h3,h4⟩|⟨hs,h1,h2⟩
 ·simp only[hs,Bool.true_and,decide_eq_true_eq];subst h1;subst h2;rw[h3];generalize (2 ^ (k.bits - 1):Int)=p at*;by_cases q:0<=n
  ·have:n % (2*p)=n:=Int.emod_eq_of_lt q aj;rw[this,if_neg aj]
  ·have:n % (2*p)=n+2*p:=by rw[←Int.add_emod_right,Int.emod_eq_of_lt aj aj]
   rw[this,if_pos aj];omega
 ·simp only[hs,Bool.false_and];subst h1;subst h2;have:n % (2 ^ k.bits:Int)=n:=Int.emod_eq_of_lt h.1 aj;simp[this]
theorem Ab{n:Int}(h: -9223372036854775808<=n/\n<=9223372036854775807):IntKind.wrap .i64 n=n:=acR .i64 _ _ n h<|.inl ⟨rfl,by decide,by decide,by decide,by decide⟩
section
variable {P:Program} {s s1:AS} {Yw:aK} {t:Tr AV}
end
def AV.cM(x:AV):Bool:=match x with
 | .U n _ _=>Nat.ble top n
 |x=>x.flat
def AV.jG(x:AV):Bool:=match x with
 | .agg l=>l.all AV.cM
 |x=>x.cM
def AV.hi(x:AV):Bool:=match x with
 | .agg l=>l.all AV.cM
 | .tuple l=>l.all AV.jG
 |x=>x.cM
def jg(ρ σ:Ren):Prop:=∀k x,top<=k->ρ k=some x->σ k=some x
theorem ql.hi(h:jg ρ σ){n b sh:Nat}(ht:top<=n)(k:ql ρ n b sh):ql σ n b sh:=.inr ⟨ht,fun e=>k.high ht (by
 cases q:ρ (hn n b sh) with
 |none=>rfl
 |some x=>rw[h _ _ (gb _ _ _) q] at e;cases e)⟩
theorem VR.flat(h:x.flat=true)(k:VR ρ x v):VR σ x v:=by
 cases x<;>first|(simp only[VR] at k ⊢;exact k)|(cases h;done)|skip
 case slice a len cap=>cases a with
  |some _=>cases h
  |none=>cases cap with
   |known c=>simp only[VR] at k ⊢;exact k
   |aq _ _=>cases h
   |lost=>cases h
 all_goals
  rename_i a;cases a with
  |none=>simp only[VR] at k ⊢;exact k
  |some _=>cases h
theorem AV.uQ(jo:jg ρ σ)(h:x.cM=true)(k:VR ρ x v):VR σ x v:=by
 unfold AV.cM at h;split at h
 ·have ht:=aM.1 h;simp only[VR] at k ⊢;exact k.imp id fun⟨b,sh,c,q1,q2⟩=>⟨b,sh,c,q1.hi jo ht,q2⟩
 ·exact VR.flat h k
theorem AV.Nu(jo:jg ρ σ):∀{l:List AV} {vs:List Value},l.all AV.cM=true->ay ρ l vs->ay σ l vs
 |[],_,_,hv=>by simpa only[ay] using hv
 |y::l,vs,hy,hv=>by obtain⟨h1,h2⟩:=and_true.1 (show(y.cM&&l.all AV.cM)=true from hy);simp only[ay] at hv ⊢;obtain⟨a,as,e,h3,h4⟩:=hv;exact⟨a,as,e,AV.uQ jo h1 h3,AV.Nu jo h2 h4⟩
theorem AV.aev(jo:jg ρ σ)(h:x.jG=true)(k:VR ρ x v):VR σ x v:=by
 unfold AV.jG at h;split at h
 ·simp only[VR] at k ⊢;obtain⟨a,e,q⟩:=k;exact⟨a,e,AV.Nu jo h q⟩
 ·exact AV.uQ jo h k
theorem AV.Uj(jo:jg ρ σ):∀{l:List AV} {vs:List Value},l.all AV.jG=true->ay ρ l vs->ay σ l vs
 |[],_,_,hv=>by simpa only[ay] using hv
 |y::l,vs,hy,hv=>by obtain⟨h1,h2⟩:=and_true.1 (show(y.jG&&l.all AV.jG)=true from hy);simp only[ay] at hv ⊢;obtain⟨a,as,e,h3,h4⟩:=hv;exact⟨a,as,e,AV.aev jo h1 h3,AV.Uj jo h2 h4⟩
theorem AV.pq(jo:jg ρ σ)(h:x.hi=true)(k:VR ρ x v):VR σ x v:=by
 unfold AV.hi at h;split at h
 ·simp only[VR] at k ⊢;obtain⟨a,e,q⟩:=k;exact⟨a,e,AV.Nu jo h q⟩
 ·simp only[VR] at k ⊢;obtain⟨a,e,q⟩:=k;exact⟨a,e,AV.Uj jo h q⟩
 ·exact AV.uQ jo h k
theorem AV.AU(jo:jg ρ σ):∀{l:List AV} {vs:List Value},l.all AV.hi=true->ay ρ l vs->ay σ l vs
 |[],_,_,hv=>by simpa only[ay] using hv
 |y::l,vs,hy,hv=>by obtain⟨h1,h2⟩:=and_true.1 (show(y.hi&&l.all AV.hi)=true from hy);simp only[ay] at hv ⊢;obtain⟨a,as,e,h3,h4⟩:=hv;exact⟨a,as,e,AV.pq jo h1 h3,AV.AU jo h2 h4⟩
theorem aew:jg ρ<|gk ρ:=fun k x hk e=>by unfold gk;rw[if_pos hk];exact e
end Go.Rn
namespace Go.Rn
open Go.RowKit
def oB(sp:Sp)(g:FuncId)(m:aK->List AV->M AV):Sp:=fun f=>bif Nat.beq f g then some m else sp f
theorem R4{sp:Sp}{g:FuncId}{m m':aK->List AV->M AV}{f:FuncId}(h:oB sp g m f=some m'):(f=g/\m'=m)\/sp f=some m':=by
 unfold oB at h;cases e:Nat.beq f g with
 |true=>rw[e] at h;injection h with h;exact .inl ⟨Nat.eq_of_beq_eq_true e,h.symm⟩
 |false=>rw[e] at h;exact .inr h
end Go.Rn
namespace Go.Rn
end Go.Rn

namespace Go.Rn
open Go.RowKit
noncomputable section
def dA(J:Nat)(h0:Tr ae)(ns:List Nat)(s:AS):AS:=match fG J h0 ns s with| .ok _ s1=>s1| .bad=>s
def pC(J:Nat)(h0:Tr ae)(ns:List Nat)(s:AS):Bool:=match fG J h0 ns s with| .ok _ _=>true| .bad=>false
end
theorem w9{J:Nat}{h0:Tr ae}{ns:List Nat}{s:AS}(h:pC J h0 ns s=true):fG J h0 ns s= .ok () (dA J h0 ns s):=by
 unfold pC at h;unfold dA;cases e:fG J h0 ns s with
 |bad=>rw[e] at h;cases h
 |ok u s1=>rfl
section
variable {P:Program} {s s1:AS} {Yw:aK} {t:Tr AV}
end
def OT(n:Int):Prop:= -9223372036854775808<=n/\n<=9223372036854775807
instance (n:Int):Decidable<|OT n:=by unfold OT;infer_instance
end Go.Rn
namespace Go.Rn
open Go.RowKit
variable {va:Bool} {rs ps:Array TypeId} {e:TypeId} {P:Program}
def Iq(P:Program):DataW (List UInt8)->Option FuncId->Bool
 | .nil,none=>true
 | .held (b::r),some f=>(List.range P.funcs.size).filter (fun f=>(P.funcs[f]?).any (·.name.toUTF8.data.toList == b::r)) == [f]
 |_,_=>false
def AA(P:Program):List (DataW<|List UInt8)->List (Option FuncId)->Bool
 |[],[]=>true
 |d::ds,f::fs=>Iq P d f&&AA P ds fs
 |_,_=>false
def afU(P:Program)(d:DataW<|List UInt8)(fs:List<|Option FuncId):Bool:=
 match d with
 | .agg ds=>AA P ds fs
 |_=>false
def Ir:Option FuncId->AV
 |none=>.nilFunc
 |some f=>.func (.func f) [] []
def CR:Option FuncId->Value
 |none=>.nilFunc
 |some f=>.func (.func f) #[] #[]
theorem ald(ρ:Ren)(f:Option FuncId):VR ρ (Ir f)<|CR f:=by
 cases f with
 |none=>simp only[Ir,CR,VR]
 |some f=>simp only[Ir,CR,VR,ay];exact⟨rfl,_,_,rfl,rfl,rfl⟩
theorem Tt{α β:Type}{f:α->Option β}:∀{l:List α} {r:List β},l.mapM f=some r->l.length=r.length/\∀(i:Nat) (x:α),l[i]? =some x->∃y,r[i]? =some y/\f x=some y
 |[],r,h=>by simp at h;subst h;exact⟨rfl,fun i x hx=>by simp at hx⟩
 |a::l,r,h=>by
  rw[List.mapM_cons] at h;cases e:f a with
  |none=>simp[e] at h
  |some b=>
   cases e2:l.mapM f with
   |none=>simp[e,e2] at h
   |some bs=>
    simp[e,e2] at h;subst h;obtain⟨h1,h2⟩:=Tt e2;refine⟨by simp[h1],fun i x hx=>?_⟩;cases i with
    |zero=>simp at hx;subst hx;exact⟨b,rfl,e⟩
    |succ i=>simp at hx;obtain⟨y,h3,h4⟩:=h2 i x hx;exact⟨y,by simpa using h3,h4⟩
theorem YP{w:World}{fuel:Nat}{v:Value}{d:DataW<|List UInt8}{q:List MemPlace}{f:Option FuncId}(he:P.underlying e=some (.func ps rs va))(h:DataW.trod (funcToken P) P w 0 (fun _=>true) true fuel e [v]=some (d,q))(hk:Iq P d f=true):v=CR f:=by
 unfold Iq at hk;split at hk
 ·cases fuel with
  |zero=>simp[DataW.trod] at h
  |succ n=>cases v<;>simp[DataW.trod,he] at h;rfl
 ·exact func_of_trod he (by simpa using hk) h
 ·cases hk
theorem RH{P:Program}:∀{ds:List<|DataW<|List UInt8} {fs:List<|Option FuncId},AA P ds fs=true->ds.length=fs.length/\∀(i:Nat) d f,ds[i]? =some d->fs[i]? =some f->Iq P d f=true
 |[],[],_=>⟨rfl,fun i d f h=>by simp at h⟩
 |[],_::_,h=>by simp[AA] at h
 |_::_,[],h=>by simp[AA] at h
 |d::ds,f::fs,h=>by
  simp only[AA,Bool.and_eq_true] at h;obtain⟨h1,h2⟩:=RH h.2;refine⟨by simp[h1],fun i a b ha hb=>?_⟩;cases i with
  |zero=>simp at ha hb;subst ha;subst hb;exact h.1
  |succ i=>simp at ha hb;exact h2 i a b ha hb
theorem ak9{W:World}{name:String}{d:DataW Unit}{g:Nat}{t:TypeId}{n:Nat}{fs:List<|Option FuncId}(h:funcsAt P W name d)(hg:P.globalNamed name=some g)(hty:(P.globals[g]?).map (·.type)=some t)(ht:P.underlying t=some (.array n e))(he:P.underlying e=some (.func ps rs va))(hc:P.cellsOf e=1)(hct:P.cellsOf t=n)(hd:afU P d.funcsOut fs=true):
 ∃c ty fr,W.heap[g]? =some (.cells c ty fr)/\fs.length=c.size/\∀(i:Nat) f,fs[i]? =some f->c[i]? =some (CR f):=by
 obtain⟨g',t',cs,fuel,p,h1,h2,h3,h4⟩:=h;obtain rfl:g=g':=Option.some.inj<|hg.symm.trans h1;obtain rfl:t=t':=Option.some.inj<|hty.symm.trans h2;have mz:∃ty fr,W.heap[g]? =some (.cells cs ty fr):=by
  unfold World.var? at h3;rw[hg] at h3;simp only[Option.bind_some] at h3;split at h3
  ·rename_i c ty fr e;injection h3 with h3;subst h3;exact⟨ty,fr,e⟩
  ·cases h3
 obtain⟨ty,fr,mz⟩:=mz;cases fuel with
 |zero=>simp[DataW.trod] at h4
 |succ m=>
  rw[DataW.trod_step] at h4;unfold DataW.trodStep at h4;simp only[ht,hc,Nat.mul_one] at h4;split at h4
  ·rename_i hlen;rw[Option.map_eq_some_iff] at h4;obtain⟨xs,h5,h6⟩:=h4;obtain⟨h7,h8⟩:=Tt h5;have ahA:d.funcsOut= .agg (xs.map (·.1)):=by injection h6 with h6 _;exact h6.symm
   rw[ahA] at hd;obtain⟨h9,gE⟩:=RH (show AA P (xs.map (·.1)) fs=true from hd);have hxl:xs.length=fs.length:=by simpa using h9
   have get:∀(i:Nat) f,fs[i]? =some f->cs[i]? =some (CR f):=by
    intro i f hf;have hi:i<fs.length:=(List.getElem?_eq_some_iff.1 hf).1;obtain⟨y,tY,qD⟩:=h8 i i (by rw[List.getElem?_range (by simp at h7;omega)]);obtain⟨v,hv⟩:∃v,(cs.toList.drop i).take 1=[v]:=by
     cases hq:(cs.toList.drop i).take 1 with
     |nil=>
      rw[hq] at qD;cases m with
      |zero=>simp[DataW.trod] at qD
      |succ k=>simp[DataW.trod,he] at qD
     |cons v l=>
      have:((cs.toList.drop i).take 1).length<=1:=List.length_take_le _ _;rw[hq] at this;cases l with
      |nil=>exact⟨v,rfl⟩
      |cons=>simp at this
    rw[hv] at qD;have F6:=YP (f:=f) (d:=y.1) (q:=y.2) he qD<|gE i y.1 f (by rw[List.getElem?_map,tY];rfl) hf;have:(cs.toList.drop i)[0]? =some v:=by
     have:((cs.toList.drop i).take 1)[0]? =some v:=by rw[hv];rfl
     rw[List.getElem?_take_of_lt aj] at this;exact this
    rw[List.getElem?_drop,Nat.add_zero,Array.getElem?_toList] at this;rw[this,F6]
   refine⟨cs,ty,fr,mz,?_,get⟩;have VM:=hlen;rw[hct] at VM;simp at VM h7;omega
  ·cases h4
theorem abE(l:List AV)(hl:l.length<=top)(i:Nat)(hi:i<l.length):(Tr.fill l 0 .nil).get i=l[i]? :=by rw[Tr.sg _ _ _ _ aj,if_pos aj];simp
end Go.Rn
namespace Go.Rn
open Go.RowKit
noncomputable section
end
end Go.Rn
namespace Go.Rn
open Go.RowKit
noncomputable section
end
section
variable {P:Program} {B:aJ} {J:Nat} {s s1:AS} {Yw:aK} {t:Tr AV} {ops:Array Oper} {f nt i:Nat} {K:List Item} {G:AF->AS->Prop} {acc:List Met} {rs:List ResultVar} {v v':AV}
end
section
variable {P:Program} {s s1:AS} {Yw:aK} {t:Tr AV}
end
noncomputable section
end
section
variable {P:Program} {F:Nat->Option (List AV)} {sp:Sp} {g n k:Nat} {ad:Option<|Nat×Nat} {cp:bW} {s:AS} {l:List AV} {a b c d:ByteArray} {n1 n2 n3 n4:Nat}
end
end Go.Rn
namespace Go.Rn
open Go.RowKit
noncomputable section
end
end Go.Rn
namespace Go.Rn
end Go.Rn
namespace Go.Rn
open Go.RowKit
variable {n:Nat} {α:Type} {y x:Operand} {ty e:TypeId} {ts:Array TypeId} {l:List α} {i:TypeInfo} {enc:α->List AV}
section
variable {P:Program} {s:AS} {Yw:aK} {t:Tr AV}
theorem Ch{off k:Nat}{l:List AV}(h1:Nat.blt n s.nx=true)(h2:s.h.get n=some (.cells l.length (Tr.fill l 0 .nil) []))(hl:l.length<=top)(Xo:0<k)(hk:off+k<=l.length):iX n off k s= .ok ((l.drop off).take k) (aT n s):=by
 cases k with
 |zero=>omega
 |succ k=>
  show((bt n).bind fun o=>match o with
   | .cells m t z=>aG (Nat.ble (off+(k+1)) m) <| lift (lK t z (k+1) off)
   | .ro m t=>aG (Nat.ble (off+(k+1)) m) <| lift (lK t [] (k+1) off)
   |_=>fail) s=_
  rw[M.bK<|lJ h1 h2];show aG (Nat.ble (off+(k+1)) l.length) (lift<|lK (Tr.fill l 0 .nil) [] (k+1) off) (aT n s)=_;rw[aM.2 hk,dy,LF hl _ _ hk];rfl
theorem aex{L:List α}{len:Nat}{cap:bW}{n0 o0 k0:Nat}(hx:aH t x=some (.slice (some (n,0)) len cap))(hlen:len=l.length)(hy:aH t y=some (.U n0 o0 k0))(h0:ts[0]? =some ty)(hu:P.underlying ty=some (.slice e))(hi:P.info? e=some i)(hz:and (sj i) (pc P ts[1]?)=true)(eN:OI i.size len cap=true)(dK:top<=n0)(eR:∀s,Yw (.row n0 o0<|k0*i.size) [] s= .ok (.agg (L.map enc).flatten) s)(hk:k0=L.length)(hn:s.h.get n=some (aA enc l))(cL:(Nat.blt n s.nx&&Nat.blt s.nx top)=true)(xN:∀x:α,(enc x).length=i.size/\(enc x).all AV.bQ=true)(hb:Nat.beq i.bytes 0=false)(tf:2*(l.length+L.length)*i.bytes+4096*i.bytes<=room)(ko:(l.length+L.length)*i.size<=top):
 ∃rd wr,(∀k∈rd,k=n\/k∈s.rd)/\(∀k∈wr,k=n\/k∈s.wr)/\(s.mark=0->rd=s.rd/\wr=s.wr)/\(dG P<|.call ⟨.builtin .append, #[x,y],ts⟩).val Yw t s= .ok (.slice (some (s.nx,0)) (l++L).length<|.aq (l++L).length i.size) ⟨(s.h.put n none).put s.nx<|some<|aA enc<|l++L,s.nx+1,s.mark,rd,wr⟩:=by
 subst hlen;subst hk;obtain⟨fw,BU⟩:=and_true.1 cL;have ahB:=(blt_eq _ _).mp fw;have Bo:=(blt_eq _ _).mp BU;have ov:∀l:List α,(l.map enc).flatten.length=l.length*i.size:=fun l=>by
  have:=uy (K:=i.size) (l:=l.map enc) fun c hc=>by obtain⟨a,_,rfl⟩:=List.mem_map.1 hc;exact(xN a).1
  rw[this,List.length_map]
 have vu:∀l:List α,(l.map enc).flatten.all AV.bQ=true:=by
  intro l;induction l with
  |nil=>rfl
  |cons x l ih=>simp only[List.map_cons,List.flatten_cons,List.all_append,ih,(xN x).2,Bool.and_true]
 have bZ:(l.map enc).flatten.length<=top:=by rw[ov];have:=Nat.mul_le_mul_right i.size (show l.length<=l.length+L.length by omega);omega
 have OU:∃rd,(∀k∈rd,k=n\/k∈s.rd)/\(s.mark=0->rd=s.rd)/\iX n 0 (l.length*i.size) s= .ok (l.map enc).flatten ⟨s.h,s.nx,s.mark,rd,s.wr⟩:=by
  cases hk:l.length*i.size with
  |zero=>have:(l.map enc).flatten=[]:=List.eq_nil_of_length_eq_zero (by rw[ov,hk]);rw[this];exact⟨s.rd,fun k h=>.inr h,fun _=>rfl,rfl⟩
  |succ k=>
   have hr:=Ch (n:=n) (off:=0) (k:=k+1) (l:=(l.map enc).flatten) (s:=s) fw hn bZ (Nat.succ_pos _) (by rw[ov,hk];omega);rw[List.drop_zero, ←hk, ←ov,List.take_length] at hr;rw[←hk, ←ov];refine⟨(aT n s).rd,?_,fun hm=>?_,?_⟩
   ·intro k h;unfold aT at h;cases q:Nat.blt n s.mark with
    |false=>rw[q] at h;exact .inr h
    |true=>rw[q] at h;rcases List.mem_cons.1 h with h|h;exact .inl h;exact .inr h
   ·unfold aT;rw[hm,show Nat.blt n 0=false from by cases q:Nat.blt n 0 with|false=>rfl|true=>have:=(blt_eq _ _).mp q;omega]
   ·rw[hr];congr 1;unfold aT;cases Nat.blt n s.mark<;>rfl
 obtain⟨gm,a1,a2,a3⟩:=OU;have pA:∃rd wr,(∀k∈rd,k=n\/k∈s.rd)/\(∀k∈wr,k=n\/k∈s.wr)/\(s.mark=0->rd=s.rd/\wr=s.wr)/\
  ((bt n).bind fun ob=>aG ob.yC <| (bJ n none).bind fun _=>grown i.size i.bytes (l.length+L.length) (l.map enc).flatten (L.map enc).flatten) ⟨s.h,s.nx,s.mark,gm,s.wr⟩= .ok (.slice (some (s.nx,0)) (l.length+L.length)<|.aq (l.length+L.length) i.size) ⟨(s.h.put n none).put s.nx<|some<|aA enc<|l++L,s.nx+1,s.mark,rd,wr⟩:=by
  rw[M.bK<|lJ (s:=⟨s.h,s.nx,s.mark,gm,s.wr⟩) fw hn];rw[show(aA enc l).yC=true from rfl,dy];obtain⟨b1,b2,b3⟩:=fL n ⟨s.h,s.nx,s.mark,gm,s.wr⟩;rw[M.bK<|wN (o:=none) (p:=aA enc l) (s:=aT n ⟨s.h,s.nx,s.mark,gm,s.wr⟩) (by rw[b2];exact fw) (by rw[b1];exact hn) rfl (by rw[blt_eq];omega)];have Pt:(l.map enc).flatten++(L.map enc).flatten=((l++L).map enc).flatten:=by rw[List.map_append,List.flatten_append]
  unfold grown;rw[show(and (Nat.ble (2*(l.length+L.length)*i.bytes+4096*i.bytes) room)<|not<|Nat.beq i.bytes 0)=true from and_true.2 ⟨aM.2 tf,by rw[hb];rfl⟩,dy,Pt];have hw:∃rd wr,(∀k∈rd,k=n\/k∈s.rd)/\(∀k∈wr,k=n\/k∈s.wr)/\(s.mark=0->rd=s.rd/\wr=s.wr)/\fm n none (aT n ⟨s.h,s.nx,s.mark,gm,s.wr⟩)=⟨s.h.put n none,s.nx,s.mark,rd,wr⟩:=by
   unfold fm aT;cases q:Nat.blt n s.mark with
   |false=>refine⟨gm,s.wr,a1,fun k h=>.inr h,fun hm=>⟨a2 hm,rfl⟩,?_⟩;show(@Bool.rec (fun _=>AS) _ _<|Nat.blt n s.mark)=_;rw[q]
   |true=>
    refine⟨n::n::gm,n::s.wr,?_,?_,fun hm=>?_,?_⟩
    ·intro k h;rcases List.mem_cons.1 h with h|h
     ·exact .inl h
     ·rcases List.mem_cons.1 h with h|h
      ·exact .inl h
      ·exact a1 k h
    ·intro k h;rcases List.mem_cons.1 h with h|h
     ·exact .inl h
     ·exact .inr h
    ·rw[hm] at q;have:=(blt_eq _ _).mp q;omega
    ·show(@Bool.rec (fun _=>AS) _ _<|Nat.blt n s.mark)=_;rw[q]
  obtain⟨rd,wr,c1,c2,c3,c4⟩:=hw;rw[c4];refine⟨rd,wr,c1,c2,c3,?_⟩;have vx:=HE (s:=⟨s.h.put n none,s.nx,s.mark,rd,wr⟩) (l:=((l++L).map enc).flatten) (by rw[ov];simpa using ko) (vu _) Bo;exact(M.bK vx).trans rfl
 obtain⟨rd,wr,d1,d2,d3,d4⟩:=pA;refine⟨rd,wr,d1,d2,d3,?_⟩;show nY P .append ts [x,y] Yw t s=_;unfold nY;have l7:jR (aH t) [x,y]=some [.slice (some (n,0)) l.length cap,.U n0 o0 L.length]:=by simp only[jR,hx,hy]
 rw[l7,bT];show Aw P Yw ts (.slice (some (n,0)) l.length cap) n0 o0 L.length s=_;unfold Aw;rw[aM.2 dK,dy,h0,bT];simp only[hu];rw[hi,bT,hz,dy,eN,dy];have hr:sk Yw n0 o0 (L.length*i.size) s= .ok (L.map enc).flatten s:=by
  rcases Nat.eq_zero_or_pos (L.length*i.size) with Qk|Qk
  ·rw[List.eq_nil_of_length_eq_zero<|(ov L).trans Qk,Qk];rfl
  rw[show sk Yw n0 o0 (L.length*i.size)=(Yw (.row n0 o0<|L.length*i.size) []).bind fun x=>match x with
   | .agg l=>aG (Nat.beq l.length<|L.length*i.size) <| M.pure l
   |_=>fail from by obtain⟨m,hm⟩:∃m,L.length*i.size=m+1:=⟨L.length*i.size - 1,by omega⟩;rw[hm];rfl]
  rw[M.bK<|eR s];show aG (Nat.beq (L.map enc).flatten.length<|L.length*i.size) (M.pure (L.map enc).flatten) s=_;rw[ov,ey.2 rfl,dy];rfl
 rw[M.bK hr,M.bK a3,d4];simp
theorem aey{c:α}{m:Nat}(hx:aH t x=some (.slice (some (n,0)) l.length<|.aq l.length i.size))(hy:aH t y=some (.slice (some (m,0)) 1<|.known 1))(h0:ts[0]? =some ty)(hu:P.underlying ty=some (.slice e))(hi:P.info? e=some i)(hz:and (sj i) (pc P ts[1]?)=true)(hn:s.h.get n=some (aA enc l))(hm:s.h.get m=some (.cells (enc c).length (Tr.fill (enc c) 0 .nil) []))(cL:(Nat.blt n s.nx&&(Nat.blt m s.nx&&Nat.blt s.nx top))=true)(xN:∀x:α,(enc x).length=i.size/\(enc x).all AV.bQ=true)(DA:0<i.size)(hb:Nat.beq i.bytes 0=false)(tf:2*(l.length+1)*i.bytes+4096*i.bytes<=room)(ko:(l.length+1)*i.size<=top):
 ∃rd wr,(∀k∈rd,k=n\/k=m\/k∈s.rd)/\(∀k∈wr,k=n\/k∈s.wr)/\(s.mark=0->rd=s.rd/\wr=s.wr)/\(dG P<|.call ⟨.builtin .append, #[x,y],ts⟩).val Yw t s= .ok (.slice (some (s.nx,0)) (l++[c]).length<|.aq (l++[c]).length i.size) ⟨(s.h.put n none).put s.nx<|some<|aA enc<|l++[c],s.nx+1,s.mark,rd,wr⟩:=by
 obtain⟨fw,cL⟩:=and_true.1 cL;obtain⟨fc,BU⟩:=and_true.1 cL;have ahB:=(blt_eq _ _).mp fw;have Bo:=(blt_eq _ _).mp BU;have ov:∀l:List α,(l.map enc).flatten.length=l.length*i.size:=fun l=>by
  have:=uy (K:=i.size) (l:=l.map enc) fun c hc=>by obtain⟨a,_,rfl⟩:=List.mem_map.1 hc;exact(xN a).1
  rw[this,List.length_map]
 have vu:∀l:List α,(l.map enc).flatten.all AV.bQ=true:=by
  intro l;induction l with
  |nil=>rfl
  |cons x l ih=>simp only[List.map_cons,List.flatten_cons,List.all_append,ih,(xN x).2,Bool.and_true]
 have Wm:(l.length+1)*i.size=l.length*i.size+i.size:=by rw[Nat.add_mul,Nat.one_mul]
 have bZ:(l.map enc).flatten.length<=top:=by rw[ov];omega
 have qq:∀{k q:Nat} {s':AS},k∈(aT q s').rd->k=q\/k∈s'.rd:=by
  intro k q s' h;unfold aT at h;cases z:Nat.blt q s'.mark with
  |false=>rw[z] at h;exact .inr h
  |true=>rw[z] at h;rcases List.mem_cons.1 h with h|h;exact .inl h;exact .inr h
 have lS:∀(q:Nat) (s':AS),s'.mark=0->aT q s'=s':=by intro q s' h;unfold aT;rw[h,show Nat.blt q 0=false from by cases z:Nat.blt q 0 with|false=>rfl|true=>have:=(blt_eq _ _).mp z;omega]
 have VN:∀(q:Nat) (s':AS),aT q s'=⟨s'.h,s'.nx,s'.mark,(aT q s').rd,s'.wr⟩:=by intro q s';unfold aT;cases Nat.blt q s'.mark<;>rfl
 have hf:firstCells i.size 1 (.slice (some (m,0)) 1<|.known 1) s= .ok (enc c) (aT m s):=by rw[Lj jD,Nat.one_mul];have hr:=Ch (n:=m) (off:=0) (k:=i.size) (l:=enc c) (s:=s) fc hm (by rw[(xN c).1];omega) DA (by rw[(xN c).1];omega);rw[hr,List.drop_zero, ←(xN c).1,List.take_length]
 let s1:AS:=⟨s.h,s.nx,s.mark,(aT m s).rd,s.wr⟩;have jH:aT m s=s1:=VN m s;have OU:∃rd,(∀k∈rd,k=n\/k∈s1.rd)/\(s.mark=0->rd=s1.rd)/\iX n 0 (l.length*i.size) s1= .ok (l.map enc).flatten ⟨s.h,s.nx,s.mark,rd,s.wr⟩:=by
  cases hk:l.length*i.size with
  |zero=>have:(l.map enc).flatten=[]:=List.eq_nil_of_length_eq_zero (by rw[ov,hk]);rw[this];exact⟨s1.rd,fun k h=>.inr h,fun _=>rfl,rfl⟩
  |succ k=>have hr:=Ch (n:=n) (off:=0) (k:=k+1) (l:=(l.map enc).flatten) (s:=s1) fw hn bZ (Nat.succ_pos _) (by rw[ov,hk];omega);rw[List.drop_zero, ←hk, ←ov,List.take_length] at hr;rw[←hk, ←ov];exact⟨(aT n s1).rd,fun k h=>qq h,fun zE=>by rw[lS n s1 zE],hr.trans<|congrArg _<|VN n s1⟩
 obtain⟨gm,a1,a2,a3⟩:=OU;have pA:∃rd wr,(∀k∈rd,k=n\/k∈s1.rd)/\(∀k∈wr,k=n\/k∈s.wr)/\(s.mark=0->rd=s1.rd/\wr=s.wr)/\
  ((bt n).bind fun ob=>aG ob.yC <| (bJ n none).bind fun _=>grown i.size i.bytes (l.length+1) (l.map enc).flatten<|enc c) ⟨s.h,s.nx,s.mark,gm,s.wr⟩= .ok (.slice (some (s.nx,0)) (l.length+1)<|.aq (l.length+1) i.size) ⟨(s.h.put n none).put s.nx<|some<|aA enc<|l++[c],s.nx+1,s.mark,rd,wr⟩:=by
  rw[M.bK<|lJ (s:=⟨s.h,s.nx,s.mark,gm,s.wr⟩) fw hn];rw[show(aA enc l).yC=true from rfl,dy];obtain⟨b1,b2,b3⟩:=fL n ⟨s.h,s.nx,s.mark,gm,s.wr⟩;rw[M.bK<|wN (o:=none) (p:=aA enc l) (s:=aT n ⟨s.h,s.nx,s.mark,gm,s.wr⟩) (by rw[b2];exact fw) (by rw[b1];exact hn) rfl (by rw[blt_eq];omega)];have Pt:(l.map enc).flatten++enc c=((l++[c]).map enc).flatten:=by simp
  unfold grown;rw[show(and (Nat.ble (2*(l.length+1)*i.bytes+4096*i.bytes) room)<|not<|Nat.beq i.bytes 0)=true from and_true.2 ⟨aM.2 tf,by rw[hb];rfl⟩,dy,Pt];have hw:∃rd wr,(∀k∈rd,k=n\/k∈s1.rd)/\(∀k∈wr,k=n\/k∈s.wr)/\(s.mark=0->rd=s1.rd/\wr=s.wr)/\fm n none (aT n ⟨s.h,s.nx,s.mark,gm,s.wr⟩)=⟨s.h.put n none,s.nx,s.mark,rd,wr⟩:=by
   unfold fm aT;cases q:Nat.blt n s.mark with
   |false=>refine⟨gm,s.wr,a1,fun k h=>.inr h,fun hm=>⟨a2 hm,rfl⟩,?_⟩;show(@Bool.rec (fun _=>AS) _ _<|Nat.blt n s.mark)=_;rw[q]
   |true=>
    refine⟨n::n::gm,n::s.wr,?_,?_,fun hm=>?_,?_⟩
    ·intro k h;rcases List.mem_cons.1 h with h|h
     ·exact .inl h
     ·rcases List.mem_cons.1 h with h|h
      ·exact .inl h
      ·exact a1 k h
    ·intro k h;rcases List.mem_cons.1 h with h|h
     ·exact .inl h
     ·exact .inr h
    ·rw[hm] at q;have:=(blt_eq _ _).mp q;omega
    ·show(@Bool.rec (fun _=>AS) _ _<|Nat.blt n s.mark)=_;rw[q]
  obtain⟨rd,wr,c1,c2,c3,c4⟩:=hw;rw[c4];refine⟨rd,wr,c1,c2,c3,?_⟩;have vx:=HE (s:=⟨s.h.put n none,s.nx,s.mark,rd,wr⟩) (l:=((l++[c]).map enc).flatten) (by rw[ov];simpa using ko) (vu _) Bo;exact(M.bK vx).trans rfl
 obtain⟨rd,wr,d1,d2,d3,d4⟩:=pA;refine⟨rd,wr,fun k h=>?_,d2,fun h=>⟨(d3 h).1.trans (by show(aT m s).rd=s.rd;rw[lS m s h]),(d3 h).2⟩,?_⟩
 ·rcases d1 k h with h|h
  ·exact .inl h
  ·exact .inr<|qq h
 show nY P .append ts [x,y] Yw t s=_;unfold nY;have l7:jR (aH t) [x,y]=some [.slice (some (n,0)) l.length<|.aq l.length i.size,.slice (some (m,0)) 1<|.known 1]:=by simp only[jR,hx,hy]
 rw[l7,bT];show pb P ts (.slice (some (n,0)) l.length<|.aq l.length i.size) (.slice (some (m,0)) 1<|.known 1) s=_;unfold pb;rw[h0,bT];simp only[hu];rw[hi,bT,hz,dy];show((firstCells i.size 1<|.slice (some (m,0)) 1<|.known 1).bind fun new=>aG (Nat.beq new.length<|1*i.size) <| qO i.size i.bytes (some (n,0)) l.length (.aq l.length i.size) 1 new) s=_;rw[M.bK hf,(xN c).1,Nat.one_mul,ey.2 rfl,dy,jH];show(aG (Nat.beq i.size i.size) <| match Nat.ble (l.length+1) l.length with
  |true=>match (some (n,0):Option<|Nat×Nat) with
   |some (m,o)=>(wx m (o+l.length*i.size)<|enc c).bind fun _=>M.pure (.slice (some (m,o)) (l.length+1)<|.aq l.length i.size)
   |none=>fail
  |false=>match (some (n,0):Option<|Nat×Nat) with
   |some (m,0)=>(iX m 0<|l.length*i.size).bind fun dv=>(bt m).bind fun o=>aG o.yC <| (bJ m none).bind fun _=>grown i.size i.bytes (l.length+1) dv (enc c)
   |_=>fail) s1=_
 have F9:Nat.ble (l.length+1) l.length=false:=by
  cases q:Nat.ble (l.length+1) l.length with
  |false=>rfl
  |true=>have:=aM.1 q;omega
 rw[ey.2 rfl,dy];simp only[F9];rw[M.bK a3,d4];simp
end
end Go.Rn
namespace Go.Rn
open Go.RowKit
variable {x i:Operand} {ty kt et:TypeId} {n:Nat} {k:Int}
section
variable {P:Program} {s s1:AS} {Yw:aK} {t:Tr AV}
noncomputable def bz(m:List<|Int×Int):ae:=.lk<|cq m
def lv:List (Int×Int)->Int->Bool
 |[],_=>false
 |p::l,k=>if p.1=k then true else lv l k
theorem Tu(k:Int):∀(m:List<|Int×Int) (i:Nat),(lv m k=false/\kE (.int .i64 k) (cq m) i=some none)\/∃j,lv m k=true/\kE (.int .i64 k) (cq m) i=some (some (j,.int .i64<|getM m k))
 |[],i=>.inl ⟨rfl,rfl⟩
 |p::l,i=>by
  have hf:kE (.int .i64 k) (cq<|p::l) i=(match some (k == p.1) with|none=>none|some true=>some (some (i,.int .i64 p.2))|some false=>kE (.int .i64 k) (cq l)<|i+1):=rfl;by_cases e:p.1=k
  ·refine .inr ⟨i,by unfold lv;rw[if_pos e],?_⟩;rw[hf,show(k == p.1)=true by simp[e],show getM (p::l) k=p.2 by simp[getM,e]]
  ·have cf:(k == p.1)=false:=by simp;exact fun q=>e q.symm
   rw[hf,cf,show lv (p::l) k=lv l k by simp[lv,e],show getM (p::l) k=getM l k by simp[getM,e]];exact Tu k l<|i+1
theorem aez{m:List<|Int×Int}(hx:aH t x=some (.map<|some n))(hi:aH t i=some (.int .i64 k))(hu:P.underlying ty=some (.map kt et))(hk:om P 10000 kt (.int .i64 k)=true)(hp:plainKey P kt (.int .i64 k)=true)(hz:qc P et=some (.int .i64 0))(hn:s.h.get n=some (bz m))(cL:Nat.blt n s.nx=true):(dG P<|.lookup ty x i true).val Yw t s= .ok (.tuple [.int .i64 (if lv m k=true then getM m k else 0),.bool<|lv m k]) (aT n s):=by
 show wM P ty x i true Yw t s=_;unfold wM;rw[hx,hi,bT,bT];unfold yE;simp only[hu];have hf:yK P kt (.int .i64 k) (.map<|some n) s= .ok (cq m) (aT n s):=by
  show((bt n).bind fun o=>match o with
   | .map es _=>M.pure es
   | .lk es=>aG (or (plainKey P kt<|.int .i64 k)<|short es) <| M.pure es
   |_=>fail) s=_
  rw[M.bK<|lJ cL hn];show(aG (or (plainKey P kt<|.int .i64 k)<|short<|cq m) <| M.pure<|cq m) (aT n s)=_;rw[hp,show(or true<|short<|cq m)=true from rfl,dy];rfl
 rw[M.bK hf,hk,dy];have Ql:findKey P kt (.int .i64 k) (cq m)=kE (.int .i64 k) (cq m) 0:=by unfold findKey;simp only[tT,hp]
 rw[Ql];rcases Tu k m 0 with⟨h1,h2⟩|⟨j,h1,h2⟩
 ·rw[h2,bT,h1];show(aB (qc P et) fun z=>M.pure<|zD true z false) (aT n s)=_;rw[hz,bT];rfl
 ·rw[h2,bT,h1];rfl
theorem aeA{y:Operand}{v:Int}{m:List<|Int×Int}(hx:aH t x=some (.map<|some n))(hi:aH t i=some (.int .i64 k))(hy:aH t y=some (.int .i64 v))(hu:P.underlying ty=some (.map kt et))(hk:om P 10000 kt (.int .i64 k)=true)(hp:plainKey P kt (.int .i64 k)=true)(hn:s.h.get n=some (bz m))(q1:Nat.blt n s.nx=true)(q2:Nat.blt n top=true):(dG P<|.mapUpdate ty x i y).val Yw t s= .ok (.tuple []) (fm n (some<|bz<|fM m k v)<|aT n s):=by
 show pZ P ty x i y Yw t s=_;unfold pZ;rw[hx,hi,hy,bT,bT,bT];have w:∀o:ae,bJ n (some o) (aT n s)= .ok () (fm n (some o)<|aT n s):=fun o=>wN (by rw[(fL n s).2.1];exact q1) (by rw[(fL n s).1];exact hn) rfl q2;have ahC:wX P ty (.map<|some n) (.int .i64 k) (.int .i64 v) s= .ok () (fm n (some<|bz<|fM m k v)<|aT n s):=by
  unfold wX;simp only[hu];rw[M.bK<|lJ q1 hn];show(aG (and (plainKey P kt<|.int .i64 k)<|om P 10000 kt<|.int .i64 k) <| aB (findKey P kt (.int .i64 k)<|cq m) fun f=>Ak n (.int .i64 k) (.int .i64 v) (cq m) f) (aT n s)=_;rw[hk,hp,show(and true true)=true from rfl,dy];have Ql:findKey P kt (.int .i64 k) (cq m)=kE (.int .i64 k) (cq m) 0:=by unfold findKey;simp only[tT,hp]
  rw[Ql];rcases To k m 0 with⟨h1,_,h3⟩|⟨j,z,h1,_,h3,h4⟩
  ·rw[h1,bT];show bJ n (some<|.lk<|cq m++[(.int .i64 k,.int .i64 v)]) (aT n s)=_;rw[w,h3 v];simp only[bz,cq,List.map_append,List.map_cons,List.map_nil]
  ·rw[h1,bT];show bJ n (some<|.lk<|putAt (cq m) (0+j) (.int .i64 k)<|.int .i64 v) (aT n s)=_;rw[Nat.zero_add,w,(h4 v).1];rfl
 rw[M.bK ahC];rfl
end
end Go.Rn
namespace Go.Rn
open Go.RowKit
variable {n k:Nat} {l L2 L1:List AV} {y x:Operand} {ty e:TypeId} {ts:Array TypeId} {i:TypeInfo} {ry:bW}
section
variable {P:Program} {s:AS} {Yw:aK} {t:Tr AV}
theorem SL{s:AS}(h1:Nat.blt n s.nx=true)(h2:s.h.get n=some (.cells l.length (Tr.fill l 0 .nil) []))(hl:l.length<=top)(hk:k<=l.length):
 ∃rd,(∀x∈rd,x=n\/x∈s.rd)/\(s.mark=0->rd=s.rd)/\iX n 0 k s= .ok (l.take k) ⟨s.h,s.nx,s.mark,rd,s.wr⟩:=by
 cases k with
 |zero=>exact⟨s.rd,fun x h=>.inr h,fun _=>rfl,rfl⟩
 |succ k=>
  have hr:=Ch (n:=n) (off:=0) (k:=k+1) (l:=l) (s:=s) h1 h2 hl (Nat.succ_pos _) aj;rw[List.drop_zero] at hr;refine⟨(aT n s).rd,?_,fun hm=>?_,?_⟩
  ·intro k h;unfold aT at h;cases q:Nat.blt n s.mark with
   |false=>rw[q] at h;exact .inr h
   |true=>rw[q] at h;rcases List.mem_cons.1 h with h|h;exact .inl h;exact .inr h
  ·unfold aT;rw[hm,show Nat.blt n 0=false from by cases q:Nat.blt n 0 with|false=>rfl|true=>have:=(blt_eq _ _).mp q;omega]
  ·rw[hr];congr 1;unfold aT;cases Nat.blt n s.mark<;>rfl
theorem aeB{m len:Nat}(hx:aH t x=some (.slice (some (n,0)) len<|.known len))(hy:aH t y=some (.slice (some (m,0)) k ry))(h0:ts[0]? =some ty)(hu:P.underlying ty=some (.slice e))(hi:P.info? e=some i)(hz:and (sj i) (pc P ts[1]?)=true)(hk:1<=k)(hn:s.h.get n=some (.cells L1.length (Tr.fill L1 0 .nil) []))(hm:s.h.get m=some (.cells L2.length (Tr.fill L2 0 .nil) []))(Ko:L1.length<=top)(xY:L2.length<=top)(h1:len*i.size<=L1.length)(h2:k*i.size<=L2.length)(he:L1.take (len*i.size)++L2.take (k*i.size)=l)(cL:(Nat.blt n s.nx&&(Nat.blt m s.nx&&Nat.blt s.nx top))=true)(vu:l.all AV.bQ=true)(hb:Nat.beq i.bytes 0=false)(tf:2*(len+k)*i.bytes+4096*i.bytes<=room)(ko:l.length<=top):
 ∃rd wr,(∀q∈rd,q=n\/q=m\/q∈s.rd)/\(∀q∈wr,q∈s.wr)/\(s.mark=0->rd=s.rd/\wr=s.wr)/\(dG P<|.call ⟨.builtin .append, #[x,y],ts⟩).val Yw t s= .ok (.slice (some (s.nx,0)) (len+k)<|.aq (len+k) i.size) ⟨s.h.put s.nx<|some<|.cells l.length (Tr.fill l 0 .nil) [],s.nx+1,s.mark,rd,wr⟩:=by
 obtain⟨fw,cL⟩:=and_true.1 cL;obtain⟨fc,BU⟩:=and_true.1 cL;have Bo:=(blt_eq _ _).mp BU;have hf:firstCells i.size k (.slice (some (m,0)) k ry) s=iX m 0 (k*i.size) s:=by
  cases k with
  |zero=>omega
  |succ k=>cases ry<;>rfl
 obtain⟨gm,a1,a2,a3⟩:=SL fc hm xY h2;obtain⟨BL,b1,b2,b3⟩:=SL (s:=⟨s.h,s.nx,s.mark,gm,s.wr⟩) fw hn Ko h1;refine⟨BL,s.wr,fun q hq=>?_,fun q hq=>hq,fun zE=>⟨(b2 zE).trans<|a2 zE,rfl⟩,?_⟩
 ·rcases b1 q hq with h|h
  ·exact .inl h
  ·exact .inr<|a1 q h
 show nY P .append ts [x,y] Yw t s=_;unfold nY;have l7:jR (aH t) [x,y]=some [.slice (some (n,0)) len<|.known len,.slice (some (m,0)) k ry]:=by simp only[jR,hx,hy]
 rw[l7,bT];show pb P ts (.slice (some (n,0)) len<|.known len) (.slice (some (m,0)) k ry) s=_;unfold pb;rw[h0,bT];simp only[hu];rw[hi,bT,hz,dy];show(aB (some k) fun BV=>(firstCells i.size BV<|.slice (some (m,0)) k ry).bind fun new=>aG (Nat.beq new.length<|BV*i.size) <| qO i.size i.bytes (some (n,0)) len (.known len) BV new) s=_;rw[bT,M.bK<|hf.trans a3];have OV:(L2.take<|k*i.size).length=k*i.size:=by rw[List.length_take];omega
 rw[OV,ey.2 rfl,dy];unfold qO;have F9:Nat.ble (len+k) len=false:=by cases q:Nat.ble (len+k) len with|false=>rfl|true=>have:=aM.1 q;omega
 simp only[F9];have Qm:firstCells i.size len (.slice (some (n,0)) len<|.known len) ⟨s.h,s.nx,s.mark,gm,s.wr⟩=iX n 0 (len*i.size) ⟨s.h,s.nx,s.mark,gm,s.wr⟩:=by cases len<;>rfl
 rw[M.bK<|Qm.trans b3];unfold grown;rw[show(and (Nat.ble (2*(len+k)*i.bytes+4096*i.bytes) room)<|not<|Nat.beq i.bytes 0)=true from and_true.2 ⟨aM.2 tf,by rw[hb];rfl⟩,dy,he];have vx:=HE (s:=⟨s.h,s.nx,s.mark,BL,s.wr⟩) (l:=l) ko vu Bo;exact(M.bK vx).trans rfl
noncomputable def Pu(o:ae)(s:AS):AS:=⟨s.h.put s.nx<|some o,s.nx+1,s.mark,s.rd,s.wr⟩
theorem aeC{m len:Nat}(hx:aH t x=some (.slice (some (n,0)) len<|.known len))(hy:aH t y=some (.slice (some (m,0)) k ry))(h0:ts[0]? =some ty)(hu:P.underlying ty=some (.slice e))(hi:P.info? e=some i)(hz:and (sj i) (pc P ts[1]?)=true)(hlen:1<=len)(hk:1<=k)(hs:1<=i.size)(hn:s.h.get n=some (.cells L1.length (Tr.fill L1 0 .nil) []))(hm:s.h.get m=some (.cells L2.length (Tr.fill L2 0 .nil) []))(Ko:L1.length<=top)(xY:L2.length<=top)(h1:len*i.size<=L1.length)(h2:k*i.size<=L2.length)(he:L1.take (len*i.size)++L2.take (k*i.size)=l)(cL:(Nat.blt n s.nx&&(Nat.blt m s.nx&&Nat.blt s.nx top))=true)(vu:l.all AV.bQ=true)(hb:Nat.beq i.bytes 0=false)(tf:2*(len+k)*i.bytes+4096*i.bytes<=room)(ko:l.length<=top):
 (dG P<|.call ⟨.builtin .append, #[x,y],ts⟩).val Yw t s= .ok (.slice (some (s.nx,0)) (len+k)<|.aq (len+k) i.size) (Pu (.cells l.length (Tr.fill l 0 .nil) [])<|aT n<|aT m s):=by
 obtain⟨fw,cL⟩:=and_true.1 cL;obtain⟨fc,BU⟩:=and_true.1 cL;have Bo:=(blt_eq _ _).mp BU;have hf:firstCells i.size k (.slice (some (m,0)) k ry) s=iX m 0 (k*i.size) s:=by
  cases k with
  |zero=>omega
  |succ k=>cases ry<;>rfl
 have p1:0<k*i.size:=Nat.mul_pos aj aj;have p2:0<len*i.size:=Nat.mul_pos aj aj;have a3:=Ch (n:=m) (off:=0) (k:=k*i.size) (l:=L2) (s:=s) fc hm xY p1 aj;have b3:=Ch (n:=n) (off:=0) (k:=len*i.size) (l:=L1) (s:=aT m s) (by rw[(fL m s).2.1];exact fw) (by rw[(fL m s).1];exact hn) Ko p2 aj;rw[List.drop_zero] at a3 b3;show nY P .append ts [x,y] Yw t s=_;unfold nY;have l7:jR (aH t) [x,y]=some [.slice (some (n,0)) len<|.known len,.slice (some (m,0)) k ry]:=by simp only[jR,hx,hy]
 rw[l7,bT];show pb P ts (.slice (some (n,0)) len<|.known len) (.slice (some (m,0)) k ry) s=_;unfold pb;rw[h0,bT];simp only[hu];rw[hi,bT,hz,dy];show(aB (some k) fun BV=>(firstCells i.size BV<|.slice (some (m,0)) k ry).bind fun new=>aG (Nat.beq new.length<|BV*i.size) <| qO i.size i.bytes (some (n,0)) len (.known len) BV new) s=_;rw[bT,M.bK<|hf.trans a3];have OV:(L2.take<|k*i.size).length=k*i.size:=by rw[List.length_take];omega
 rw[OV,ey.2 rfl,dy];unfold qO;have F9:Nat.ble (len+k) len=false:=by cases q:Nat.ble (len+k) len with|false=>rfl|true=>have:=aM.1 q;omega
 simp only[F9];have Qm:firstCells i.size len (.slice (some (n,0)) len<|.known len) (aT m s)=iX n 0 (len*i.size) (aT m s):=by
  cases len with
  |zero=>omega
  |succ k=>rfl
 rw[M.bK<|Qm.trans b3];unfold grown;rw[show(and (Nat.ble (2*(len+k)*i.bytes+4096*i.bytes) room)<|not<|Nat.beq i.bytes 0)=true from and_true.2 ⟨aM.2 tf,by rw[hb];rfl⟩,dy,he];have cv:(aT n<|aT m s).nx=s.nx:=by rw[(fL n _).2.1,(fL m _).2.1]
 have vx:=HE (s:=aT n<|aT m s) (l:=l) ko vu (by rw[cv];exact Bo);rw[cv] at vx;refine(M.bK vx).trans ?_;unfold Pu;rw[cv];rfl
end
end Go.Rn
