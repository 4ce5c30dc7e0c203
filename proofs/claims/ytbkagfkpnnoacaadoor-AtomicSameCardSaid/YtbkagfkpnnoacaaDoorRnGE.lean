import Derived.Test.YtbkagfkpnnoacaaDoorRnGD
import Derived.CheckFast
import Derived.Lib.ItoaNum
import Derived.LaidMore
import Derived.LaidHandle
import Derived.Lib.LaidTab
import Derived.Sort.Grow
import Derived.Deep.Draws
set_option maxRecDepth 100000
set_option maxHeartbeats 8000000
set_option linter.unusedSimpArgs false
set_option linter.unusedVariables false
namespace Go.Rn
open Go.RowKit
variable {i:Nat} {d:Option Tmp} {v:AV} {o:Oper}
noncomputable section
def aE:List (Nat×AV)->Tr AV
 |[]=>.nil
 |p::l=>(aE l).put p.1<|some p.2
def fR:List (Nat×Option ae)->Tr ae
 |[]=>.nil
 |p::l=>(fR l).put p.1 p.2
def ah(l:List<|Nat×Option ae)(nx:Nat):AS:=⟨fR l,nx,0,[],[]⟩
def Vo(P:Program)(f:FuncId):Code:=
 match P.funcs[f]? with
 |none=>.skip
 |some fn=>match fn.body with
  |none=>.skip
  |some c=>c
def aR(P:Program)(f:FuncId)(p:List Nat):Code:=sC p<|Vo P f
def opsOf:Code->Array Oper
 | .region _ ops _=>ops
 |_=> #[]
def pt(P:Program)(YG:aK)(nt:Nat)(ops:Array Oper)(i n:Nat)(t:Tr AV):M<|Tr AV:=jf P YG nt ops ((ops.toList.drop i).take n) t
def xO(ops:Array Oper)(i:Nat):Option<|Op×Option Tmp×Option (Nat×Bool):=
 match ops[i]? with
 |none=>none
 |some o=>some (o.op,o.dst,o.guard)
end
section
variable {P:Program} {B:aJ} {J:Nat} {Q:Tr AV->List Nat->Option Code->AS->Prop} {ρ:Ren} {w:World} {s s1 s2:AS} {YG:aK} {t t1 t2:Tr AV} {ops:Array Oper} {nt:Nat}
theorem Mp{l:List Oper}:jf P YG nt ops (o::l) t=(gM P YG nt ops o t).bind (jf P YG nt ops l):=rfl
theorem Tw:∀{l1 l2:List Oper} {t t1:Tr AV} {s s1:AS},jf P YG nt ops l1 t s= .ok t1 s1->jf P YG nt ops (l1++l2) t s=jf P YG nt ops l2 t1 s1
 |[],l2,t,t1,s,s1,h=>by cases h;rfl
 |o::l1,l2,t,t1,s,s1,h=>by rw[Mp] at h;obtain⟨t',s',h1,h2⟩:=M.aN h;show jf P YG nt ops (o::(l1++l2)) t s=_;rw[Mp,M.bK h1];exact Tw h2
theorem Sa{n m:Nat}(h1:pt P YG nt ops i n t s= .ok t1 s1)(h2:pt P YG nt ops (i+n) m t1 s1= .ok t2 s2):pt P YG nt ops i (n+m) t s= .ok t2 s2:=by unfold pt at h1 h2 ⊢;rw[List.take_add,Tw h1,List.drop_drop];exact h2
theorem Sb(ho:ops[i]? =some o)(h:gM P YG nt ops o t s= .ok t1 s1):pt P YG nt ops i 1 t s= .ok t1 s1:=by
 unfold pt;have:(ops.toList.drop i).take 1=[o]:=by
  have h1:ops.toList[i]? =some o:=by rw[Array.getElem?_toList];exact ho
  obtain⟨hi,e⟩:=List.getElem?_eq_some_iff.1 h1;rw[List.drop_eq_getElem_cons hi,e];rfl
 rw[this,Mp,M.bK h];rfl
theorem Ic{op:Op}{g:Option<|Nat×Bool}(h:xO ops i=some (op,d,g)):∃o,ops[i]? =some o/\o.op=op/\o.dst=d/\o.guard=g:=by
 unfold xO at h;split at h
 ·cases h
 ·rename_i o e;injection h with h
  injection h with h1 h
  injection h with h2 h3
  exact⟨o,e,h1,h2,h3⟩
theorem cx{op:Op}(ho:xO ops i=some (op,d,none))(h:(du P op).val YG t s= .ok v s1)(hp:je nt t d v=some t1):pt P YG nt ops i 1 t s= .ok t1 s1:=by obtain⟨o,e,rfl,rfl,e3⟩:=Ic ho;refine Sb e ?_;unfold gM Bd;rw[e3];show rL (du P o.op) o.dst YG nt t s=_;unfold rL;rw[M.bK h,hp];rfl
theorem ahQ{op:Op}{g:Nat×Bool}(ho:xO ops i=some (op,d,some g))(hk:sP ops t g.1=true)(hw:p9 ops g t=true)(h:(du P op).val YG t s= .ok v s1)(hp:je nt t d v=some t1):pt P YG nt ops i 1 t s= .ok t1 s1:=by obtain⟨o,e,rfl,rfl,e3⟩:=Ic ho;refine Sb e ?_;unfold gM Bd;rw[e3];show tq ops g (du P o.op) o.dst YG nt t s=_;unfold tq;rw[hk,hw,dq];show((du P o.op).val YG t).bind (fun v=>lift<|je nt t o.dst v) s=_;rw[M.bK h,hp];rfl
theorem LZ:∀{l:List<|List AV} {K i:Nat} {c:List AV},(∀c∈l,c.length=K)->l[i]? =some c->(l.flatten.drop<|i*K).take K=c
 |[],_,_,_,_,h=>by simp at h
 |x::l,K,0,c,hl,h=>by simp at h;subst h;have hx:=hl x List.mem_cons_self;rw[Nat.zero_mul,List.drop_zero,List.flatten_cons,List.take_append,hx,Nat.sub_self,List.take_zero,List.append_nil, ←hx,List.take_length]
 |x::l,K,i+1,c,hl,h=>by have hx:=hl x List.mem_cons_self;rw[List.flatten_cons,List.drop_append,hx,show(i+1)*K - K=i*K by rw[Nat.add_mul,Nat.one_mul];omega,List.drop_eq_nil_of_le (by rw[hx,Nat.add_mul,Nat.one_mul];omega),List.nil_append];exact LZ (fun c hc=>hl c<|List.mem_cons_of_mem _ hc) (by simpa using h)
end
end Go.Rn
namespace Go.Rn
open Go.RowKit
section
variable {P:Program} {s s1:AS} {YG:aK} {t:Tr AV}
theorem acY{op:BinOp}{ty yt:TypeId}{x y:Operand}{k:IntKind}{a b:Int}{r:Bool}(hx:aH t x=some (.int k a))(hy:aH t y=some (.int k b))(hs:yG op=false)(hg:Ay P op ty x y (.int k a) (.int k b)=true)(hr:Dd op k a b=some (.bool r)):
 (du P<|.binOp op ty x y yt).val YG t s= .ok (.bool r) s:=by
 show oQ P op ty x y YG t s=_;unfold oQ;rw[hx,hy,bQ,bQ,hg,dq];have:sM P op ty (.int k a) (.int k b)=some (.bool r):=by unfold sM;simp only[hs,decide_true];exact hr
 rw[this];rfl
end
end Go.Rn
namespace Go.Rn
open Go.RowKit
section
variable {P:Program} {B:aJ} {J:Nat} {Q:Tr AV->List Nat->Option Code->AS->Prop} {s s1 s2:AS} {YG:aK} {t t1 t2:Tr AV} {ops:Array Oper} {nt:Nat}
theorem acZ{op:BinOp}{ty yt:TypeId}{x y:Operand}{k:IntKind}{a b:Int}{r:AV}(hx:aH t x=some (.int k a))(hy:aH t y=some (.int k b))(hs:yG op=false)(hg:Ay P op ty x y (.int k a) (.int k b)=true)(hr:Dd op k a b=some r):
 (du P<|.binOp op ty x y yt).val YG t s= .ok r s:=by
 show oQ P op ty x y YG t s=_;unfold oQ;rw[hx,hy,bQ,bQ,hg,dq];have:sM P op ty (.int k a) (.int k b)=some r:=by unfold sM;simp only[hs,decide_true];exact hr
 rw[this];rfl
noncomputable def tH(P:Program)(YG:aK)(nt:Nat)(ops:Array Oper)(i n:Nat)(t:Tr AV):M<|Tr AV×List Met:=mW P YG nt ops ((ops.toList.drop i).take n) i t
theorem SO:∀{l1 l2:List Oper} {i:Nat} {t t1 t2:Tr AV} {m1 m2:List Met} {s s1 s2:AS},mW P YG nt ops l1 i t s= .ok (t1,m1) s1->mW P YG nt ops l2 (i+l1.length) t1 s1= .ok (t2,m2) s2->mW P YG nt ops (l1++l2) i t s= .ok (t2,m1++m2) s2
 |[],l2,i,t,t1,t2,m1,m2,s,s1,s2,h,k=>by cases h;exact k
 |o::l1,l2,i,t,t1,t2,m1,m2,s,s1,s2,h,k=>by
  have h':((alone i<|gM P YG nt ops o t).bind fun x=>(mW P YG nt ops l1 (i+1) x.1).bind fun y=>M.pure (y.1,x.2::y.2)) s= .ok (t1,m1) s1:=h;obtain⟨x,sx,e1,e2⟩:=M.aN h';obtain⟨y,sy,e3,e4⟩:=M.aN e2;obtain⟨e5,rfl⟩:=bA e4;injection e5 with e6 e7
  subst e6;subst e7;have:=SO (i:=i+1) e3 (by rw[show i+1+l1.length=i+(o::l1).length by simp;omega];exact k);show((alone i<|gM P YG nt ops o t).bind fun x=>(mW P YG nt ops (l1++l2) (i+1) x.1).bind fun y=>M.pure (y.1,x.2::y.2)) s=_;rw[M.bK e1,M.bK this];rfl
theorem Tx{i n m N:Nat}{m1 m2:List Met}(hN:ops.size=N)(hi:i+n<=N)(h1:tH P YG nt ops i n t s= .ok (t1,m1) s1)(h2:tH P YG nt ops (i+n) m t1 s1= .ok (t2,m2) s2):tH P YG nt ops i (n+m) t s= .ok (t2,m1++m2) s2:=by unfold tH at h1 h2 ⊢;rw[List.take_add,List.drop_drop];refine SO h1 ?_;rw[List.length_take,List.length_drop,Array.length_toList,hN,Nat.min_eq_left aj];exact h2
theorem Cz:∀{l:List<|Nat×AV} {i:Nat} {y:AV},(∀p∈l,p.1<top)->(aE l).get i=some y->(i,y)∈l
 |[],i,y,_,h=>by have:(Tr.nil:Tr AV).get i=some y:=h;rw[Tr.get_nil] at this;cases this
 |p::l,i,y,hl,h=>by
  have h':((aE l).put p.1<|some p.2).get i=some y:=h;rw[Tr.lL _ _ _ _<|hl p List.mem_cons_self] at h';by_cases e:i=p.1
  ·rw[if_pos e] at h';injection h' with h';subst h';subst e;exact List.mem_cons_self
  ·rw[if_neg e] at h';exact List.mem_cons_of_mem _<|Cz (fun q hq=>hl q<|List.mem_cons_of_mem _ hq) h'
theorem uK:∀{l:List<|Nat×Option ae} {i:Nat} {y:ae},(∀p∈l,p.1<top)->(fR l).get i=some y->(i,some y)∈l
 |[],i,y,_,h=>by have:(Tr.nil:Tr ae).get i=some y:=h;rw[Tr.get_nil] at this;cases this
 |p::l,i,y,hl,h=>by
  have h':((fR l).put p.1 p.2).get i=some y:=h;rw[Tr.lL _ _ _ _<|hl p List.mem_cons_self] at h';by_cases e:i=p.1
  ·rw[if_pos e] at h';have:p=(i,some y):=by rw[e, ←h']
   rw[←this];exact List.mem_cons_self
  ·rw[if_neg e] at h';exact List.mem_cons_of_mem _<|uK (fun q hq=>hl q<|List.mem_cons_of_mem _ hq) h'
theorem bg.same(x:AV):bg (fun k=>k) x x:=fun _ _ h=>h
theorem lS.same(x:ae):lS (fun k=>k) x x:=fun _ _ _ h=>h
def xz(t:Tr AV):List (Nat×AV)->Prop
 |[]=>True
 |p::l=>t.get p.1=some p.2/\xz t l
def xP(h:Tr ae):List (Nat×Option ae)->Prop
 |[]=>True
 |p::l=>(h.get p.1=p.2/\∀o,p.2=some o->o.jP=true)/\xP h l
theorem xz.mem{t:Tr AV}:∀{l:List<|Nat×AV},xz t l->∀p∈l,t.get p.1=some p.2
 |[],_,p,hp=>by cases hp
 |q::l,h,p,hp=>by
  rcases List.mem_cons.1 hp with rfl|hp
  ·exact h.1
  ·exact xz.mem h.2 p hp
theorem xP.mem{h:Tr ae}:∀{l:List<|Nat×Option ae},xP h l->∀p∈l,h.get p.1=p.2/\∀o,p.2=some o->o.jP=true
 |[],_,p,hp=>by cases hp
 |q::l,k,p,hp=>by
  rcases List.mem_cons.1 hp with rfl|hp
  ·exact k.1
  ·exact xP.mem k.2 p hp
def pJ{α:Type}(n:Nat):List (Nat×α)->Bool
 |[]=>true
 |p::l=>Nat.blt p.1 n&&pJ n l
theorem wJ{α:Type}{n:Nat}:∀{l:List<|Nat×α},pJ n l=true->∀p∈l,p.1<n
 |[],_,p,hp=>by cases hp
 |q::l,h,p,hp=>by
  obtain⟨h1,h2⟩:=and_true.1 h;rcases List.mem_cons.1 hp with rfl|hp
  ·exact(blt_eq _ _).mp h1
  ·exact wJ h2 p hp
theorem au.less{f:FuncId}{K:List Item}{l:List<|Nat×AV}{o:List<|Nat×Option ae}{nx:Nat}(hl:pJ top l=true)(ho:pJ top o=true)(hn:(Nat.ble s.nx nx&&Nat.ble nx top)=true)(hg:fI<=J)(ht:xz t l)(hh:xP s.h o)(H:au P B J Q ⟨f,aE l,nt,K,[],none⟩<|ah o nx):au P B J Q ⟨f,t,nt,K,[],none⟩ s:=by
 obtain⟨BI,ua⟩:=and_true.1 hn;have BI:=aL.1 BI;have ua:=aL.1 ua;refine au.weaken (s2:=ah o nx) (t2:=aE l) [] (fun k=>k) (fun _ _=>rfl) (fun k hk ht=>⟨Nat.le_trans BI hk,ht⟩) (fun _ _=>rfl) hg ⟨Nat.zero_le _,ua⟩ rfl rfl (fun _ h=>by cases h) (fun i y hy=>?_) (fun n o2 hn hg=>?_) (fun _ h=>by cases h) (fun n m _ _ _ _ _ _ e=>e) H
 ·have:=Cz (fun p hp=>wJ hl p hp) hy;exact⟨y,ht.mem _ this,(bg.same y).z⟩
 ·have:=uK (fun p hp=>wJ ho p hp) hg;obtain⟨h1,h2⟩:=hh.mem _ this;exact⟨hn,.inl<|h2 o2 rfl,o2,h1,fK.refl _,(lS.same o2).z⟩
end
end Go.Rn
namespace Go.Rn
open Go.RowKit
section
variable {P:Program} {s s1:AS} {YG:aK} {t:Tr AV}
theorem LP{l z:List AV}(hl:l.length<=top):∀(k off:Nat),off+k<=l.length->lO (Tr.fill l 0 .nil) z k off=some ((l.drop off).take k)
 |0,off,_=>by simp[lO]
 |k+1,off,h=>by
  have bZ:off<l.length:=by omega
  have hc:cellAt (Tr.fill l 0 .nil) z off=some l[off]:=by unfold cellAt;rw[Tr.sq _ _ _ _ aj,if_pos aj,Nat.sub_zero,List.getElem?_eq_getElem bZ]
  simp only[lO,hc,LP hl k (off+1) aj];rw[List.drop_eq_getElem_cons bZ,List.take_succ_cons]
noncomputable def aC{α:Type}(enc:α->List AV)(l:List α):ae:=.cells (l.map enc).flatten.length (Tr.fill (l.map enc).flatten 0 .nil) []
theorem ac0{o:ae}(ht:s.nx<top):gA o s= .ok s.nx {s with h:=s.h.put s.nx<|some o,nx:=s.nx+1}:=by
 obtain⟨hh,nx,mark,rd,wr⟩:=s;have e1:Nat.blt nx top=true:=by rw[blt_eq];exact ht
 show @Bool.rec (fun _=>R Nat) .bad (forced nx fun m=>.ok m ⟨hh.put m<|some o,m+1,mark,rd,wr⟩) (Nat.blt nx top)=_;rw[e1,yB]
theorem HQ{l:List AV}(hl:l.length<=top)(h1:l.all AV.bR=true)(ht:s.nx<top):newRow l s= .ok s.nx {s with h:=s.h.put s.nx<|some<|.cells l.length (Tr.fill l 0 .nil) [],nx:=s.nx+1}:=by unfold newRow;rw[show(and (Nat.ble l.length top)<|l.all AV.bR)=true from and_true.2 ⟨aL.2 hl,h1⟩,dq];exact ac0 ht
end
end Go.Rn
namespace Go.Rn
open Go.RowKit
end Go.Rn
namespace Go.Rn
open Go.RowKit
noncomputable section
def cn(m:List<|Int×Int):List<|AV×AV:=m.map fun p=>(.int .i64 p.1,.int .i64 p.2)
def xQ(m:List<|Int×Int):ae:=.map (cn m) m.length
end
def getM:List (Int×Int)->Int->Int
 |[],_=>0
 |p::l,k=>if p.1=k then p.2 else getM l k
def fM:List (Int×Int)->Int->Int->List (Int×Int)
 |[],k,v=>[(k,v)]
 |p::l,k,v=>if p.1=k then(k,v)::l else p::fM l k v
section
variable {P:Program} {s s1:AS} {YG:aK} {t:Tr AV}
theorem Ty(a b:Int):sameKey (.int .i64 a) (.int .i64 b)=some (a == b):=rfl
theorem Tz(k:Int):∀(m:List<|Int×Int) (i:Nat),(kI (.int .i64 k) (cn m) i=some none/\getM m k=0/\∀v,fM m k v=m++[(k,v)])\/
 ∃j y,kI (.int .i64 k) (cn m) i=some (some (i+j,.int .i64 y))/\getM m k=y/\m[j]? =some (k,y)/\∀v,putAt (cn m) j (.int .i64 k) (.int .i64 v)=cn (fM m k v)/\(fM m k v).length=m.length
 |[],i=>.inl ⟨rfl,rfl,fun _=>rfl⟩
 |p::l,i=>by
  have hf:kI (.int .i64 k) (cn<|p::l) i=(match some (k == p.1) with|none=>none|some true=>some (some (i,.int .i64 p.2))|some false=>kI (.int .i64 k) (cn l)<|i+1):=rfl;by_cases e:p.1=k
  ·refine .inr ⟨0,p.2,?_,?_,?_,fun v=>⟨?_,?_⟩⟩
   ·rw[hf,show(k == p.1)=true by simp[e]];rfl
   ·simp[getM,e]
   ·simp[←e]
   ·simp[fM,e,cn,putAt]
   ·simp[fM,e]
  ·have cf:(k == p.1)=false:=by simp;exact fun q=>e q.symm
   rcases Tz k l (i+1) with⟨h1,h2,h3⟩|⟨j,y,h1,h2,h3,h4⟩
   ·refine .inl ⟨?_,?_,fun v=>?_⟩
    ·rw[hf,cf];exact h1
    ·simp[getM,e,h2]
    ·simp[fM,e,h3 v]
   ·refine .inr ⟨j+1,y,?_,?_,?_,fun v=>⟨?_,?_⟩⟩
    ·rw[hf,cf];show kI _ _ _=_;rw[h1];congr 3;omega
    ·simp[getM,e,h2]
    ·simpa using h3
    ·have:=(h4 v).1;simp only[fM,e,if_false];show(_:AV×AV)::putAt (cn l) j _ _=_::cn (fM l k v);rw[this]
    ·simp[fM,e,(h4 v).2]
end
end Go.Rn
namespace Go.Rn
open Go.RowKit
section
variable {r:Nat->Nat}
theorem bg.int(k:IntKind)(n:Int):bg r (.int k n)<|.int k n:=fun _ _ h=>h
theorem bg.bool(b:Bool):bg r (.bool b)<|.bool b:=fun _ _ h=>h
theorem bg.yD:bg r (.slice none 0<|.known 0)<|.slice none 0<|.known 0:=fun _ _ h=>h
theorem bg.ptr{n m o:Nat}(e:r m=n):bg r (.ptr<|some (n,o))<|.ptr<|some (m,o):=by intro ρ v h;simp only[VR] at h ⊢;rw[e];exact h
theorem bg.map{n m:Nat}(e:r m=n):bg r (.map<|some n)<|.map<|some m:=by intro ρ v h;simp only[VR] at h ⊢;rw[e];exact h
theorem bg.slice{n m o len:Nat}{c:bW}(e:r m=n):bg r (.slice (some (n,o)) len c)<|.slice (some (m,o)) len c:=by intro ρ v h;cases c<;>simp only[VR] at h ⊢ <;>rw[e]<;>exact h
theorem bg.U{n o len:Nat}(e:r n=n)(hr:∀k,top<=k->r k=k):bg r (.U n o len)<|.U n o len:=by intro ρ v h;simp only[VR] at h ⊢;refine h.imp id fun⟨b,sh,c,h1,h2⟩=>⟨b,sh,c,h1.imp (fun q=>⟨q.1,(congrArg ρ e).trans q.2⟩) fun q=>⟨q.1,fun z=>q.2<|(congrArg ρ<|hr _<|gb _ _ _).symm.trans z⟩,h2⟩
def AV.flat:AV->Bool
 | .bool _| .int _ _| .str _| .Gc _=>true
 | .ptr none| .map none| .nilFunc| .nilIface=>true
 | .slice none _ (.known _)=>true
 |_=>false
theorem bg.flat{x:AV}(h:x.flat=true):bg r x x:=by
 intro ρ v k;cases x<;>first|exact k|skip
 case slice a len cap=>cases a with
  |some _=>cases h
  |none=>cases cap with
   |known c=>simp only[VR] at k ⊢;exact k
   |aq _ _=>cases h
   |lost=>cases h
 all_goals first|(cases h;done)|skip
 all_goals
  rename_i a;cases a with
  |none=>exact k
  |some _=>cases h
def oB(r:Nat->Nat):List AV->List AV->Prop
 |[],[]=>True
 |x::l,y::m=>bg r x y/\oB r l m
 |_,_=>False
theorem oB.length:∀{l m:List AV},oB r l m->l.length=m.length
 |[],[],_=>rfl
 |_::_,_::_,h=>by simp[oB.length h.2]
 |[],_::_,h=>by cases h
 |_::_,[],h=>by cases h
theorem oB.ak:∀{l m:List AV} {i:Nat} {x y:AV},oB r l m->l[i]? =some x->m[i]? =some y->bg r x y
 |x::l,y::m,0,a,b,h,h1,h2=>by simp at h1 h2;subst h1;subst h2;exact h.1
 |x::l,y::m,i+1,a,b,h,h1,h2=>oB.ak h.2 (by simpa using h1) (by simpa using h2)
 |[],[],_,_,_,_,h1,_=>by simp at h1
 |_::_,[],_,_,_,h,_,_=>by cases h
 |[],_::_,_,_,_,h,_,_=>by cases h
theorem oB.flat:∀{l:List AV},l.all AV.flat=true->oB r l l
 |[],_=>trivial
 |x::l,h=>by obtain⟨h1,h2⟩:=and_true.1 (show(x.flat&&l.all AV.flat)=true from h);exact⟨bg.flat h1,oB.flat h2⟩
theorem lS.cells{l m:List AV}(hl:l.length<=top)(h:oB r l m)(h1:m.all AV.bR=true):lS r (.cells l.length (Tr.fill l 0 .nil) [])<|.cells m.length (Tr.fill m 0 .nil) []:=by
 have hlen:=h.length;intro ρ N o k;obtain⟨c,e,rfl,k1,k2,k3⟩:=k;refine⟨c,e,rfl,k1,by omega,fun i hi=>?_⟩;obtain⟨x,v,a1,a2,a3,a4⟩:=k3 i aj;have hx:l[i]? =some x:=by unfold cellAt at a1;rw[Tr.sq _ _ _ _ aj,if_pos aj,Nat.sub_zero,List.getElem?_eq_getElem aj] at a1;rw[List.getElem?_eq_getElem aj];exact a1
 have hy:m[i]? =some m[i]:=List.getElem?_eq_getElem hi;refine⟨m[i],v,?_,?_,a3,h.ak hx hy ρ v a4⟩
 ·unfold cellAt;rw[Tr.sq _ _ _ _ aj,if_pos aj,Nat.sub_zero,hy]
 ·exact List.all_eq_true.1 h1 _<|List.getElem_mem hi
theorem lS.aC{α:Type}{enc:α->List AV}{l:List α}(he:∀x,(enc x).all AV.flat=true/\(enc x).all AV.bR=true)(hl:(l.map enc).flatten.length<=top):lS r (aC enc l)<|aC enc l:=by
 have hf:∀(p:AV->Bool),(∀x,(enc x).all p=true)->∀l:List α,(l.map enc).flatten.all p=true:=by
  intro p hp l;induction l with
  |nil=>rfl
  |cons x l ih=>simp only[List.map_cons,List.flatten_cons,List.all_append,ih,hp x,Bool.and_true]
 exact lS.cells hl (oB.flat<|hf _ (fun x=>(he x).1) l)<|hf _ (fun x=>(he x).2) l
def af9(r:Nat->Nat)(h:Tr ae):List (Nat×ae)->Prop
 |[]=>True
 |p::l=>(p.2.plain=true/\∃x,h.get (r p.1)=some x/\(x.dh=p.2.dh/\x.mJ=p.2.mJ)/\lS r x p.2)/\af9 r h l
def aX:List (Nat×ae)->List (Nat×Option ae)
 |[]=>[]
 |p::l=>(p.1,some p.2)::aX l
theorem Mq:∀{l:List<|Nat×ae} {i:Nat} {y:ae},(i,some y)∈aX l->(i,y)∈l
 |p::l,i,y,h=>by
  rcases List.mem_cons.1 h with h|h
  ·injection h with h1 h2
   injection h2 with h2
   have:p=(i,y):=by rw[h1,h2]
   rw[←this];exact List.mem_cons_self
  ·exact List.mem_cons_of_mem _<|Mq h
variable {P:Program} {B:aJ} {Q:Tr AV->List Nat->Option Code->AS->Prop} {s:AS} {t:Tr AV} {nt:Nat}
end
end Go.Rn
namespace Go.Rn
end Go.Rn
namespace Go.Rn
open Go.RowKit
variable {ty yt:TypeId} {ys xs:List AV} {l:List<|Int×Int} {y x:Operand} {d:Nat} {b:Bool}
noncomputable section
def fieldsOf(P:Program)(ty:TypeId):List Field:=
 match P.underlying ty with
 |some (.struct fs)=>fs.toList
 |_=>[]
def E3(P:Program)(ty:TypeId):Bool:=
 match P.underlying ty with
 |some (.struct _)=>true
 |_=>false
def AE(P:Program)(xs ys:List AV):List Field->Option (List<|Int×Int)
 |[]=>some []
 |f::l=>match f.name == "_" with
  |true=>none
  |false=>match P.underlying f.type,pz P f.type xs f.offset,pz P f.type ys f.offset with
   |some (.int _),some (.int k a),some (.int k' b)=>match decide (k=k') with
    |true=>match AE P xs ys l with
     |some r=>some<|(a,b)::r
     |none=>none
    |false=>none
   |_,_,_=>none
def allEq(l:List<|Int×Int):Bool:=l.all fun p=>p.1 == p.2
end
section
variable {P:Program} {s s1:AS} {YG:aK} {t:Tr AV}
theorem ac1{k i:IntKind}{a b:Int}(hu:P.underlying ty=some (.int i)):mo P (d+1) ty (.int k a) (.int k b)=some (a == b):=by unfold mo;rw[hu];simp only[decide_true]
theorem Rj{d:Nat}{xs ys:List AV}:∀{fs:List Field} {l:List<|Int×Int},AE P xs ys fs=some l->eqFields P (mo P<|d+1) xs ys fs=some (allEq l)
 |[],l,h=>by cases h;rfl
 |f::fs,l,h=>by
  unfold AE at h;split at h
  ·cases h
  ·rename_i hn;split at h
   ·rename_i i k a k' b hu hx hy;split at h
    ·rename_i hk;have zG:k=k':=of_decide_eq_true hk;subst zG;split at h
     ·rename_i r hr;cases h;unfold eqFields;simp only[hn,hx,hy,ac1 hu];cases q:a == b with
      |false=>simp only[allEq,List.all_cons,q,Bool.false_and]
      |true=>simp only[allEq,List.all_cons,q,Bool.true_and];exact Rj hr
     ·cases h
    ·cases h
   ·cases h
theorem Uq(hu:E3 P ty=true)(hs:P.stoodInHeld ty=false)(h:AE P xs ys (fieldsOf P ty)=some l):mo P (d+2) ty (.agg xs) (.agg ys)=some (allEq l):=by
 unfold E3 at hu;split at hu
 ·rename_i fs e;unfold fieldsOf at h;rw[e] at h;unfold mo;rw[e];simp only[hs];exact Rj h
 ·cases hu
theorem ac2(hx:aH t x=some (.agg xs))(hy:aH t y=some (.agg ys))(hg:Ay P .neq ty x y (.agg xs) (.agg ys)=true)(hu:E3 P ty=true)(hs:P.stoodInHeld ty=false)(h:AE P xs ys (fieldsOf P ty)=some l)(hb:allEq l=b):
 (du P<|.binOp .neq ty x y yt).val YG t s= .ok (.bool<|!b) s:=by
 show oQ P .neq ty x y YG t s=_;unfold oQ;rw[hx,hy,bQ,bQ,hg,dq];have:sM P .neq ty (.agg xs) (.agg ys)=some (.bool<|!b):=by unfold sM;simp only;have e:=Uq (d:=Op.maxDepth - 2) hu hs h;rw[show Op.maxDepth - 2+2=Op.maxDepth from rfl] at e;rw[e,hb]
 rw[this];rfl
theorem ac3(hx:aH t x=some (.agg xs))(hy:aH t y=some (.agg ys))(hg:Ay P .eql ty x y (.agg xs) (.agg ys)=true)(hu:E3 P ty=true)(hs:P.stoodInHeld ty=false)(h:AE P xs ys (fieldsOf P ty)=some l)(hb:allEq l=b):
 (du P<|.binOp .eql ty x y yt).val YG t s= .ok (.bool b) s:=by
 show oQ P .eql ty x y YG t s=_;unfold oQ;rw[hx,hy,bQ,bQ,hg,dq];have:sM P .eql ty (.agg xs) (.agg ys)=some (.bool b):=by unfold sM;simp only;have e:=Uq (d:=Op.maxDepth - 2) hu hs h;rw[show Op.maxDepth - 2+2=Op.maxDepth from rfl] at e;rw[e,hb]
 rw[this];rfl
end
end Go.Rn
namespace Go.Rn
open Go.RowKit
noncomputable section
def Fin(P:Program)(rs:List ResultVar)(R:AV->AS->Prop):Tr AV->List Nat->Option Code->AS->Prop:=fun t d j s=>∃x s3,finish P rs ⟨0,t,0,[],d,none⟩ j s= .ok x s3/\R x s3
end
section
variable {P:Program} {B:aJ} {ρ:Ren} {w:World} {s s1:AS} {YG:aK}
theorem EM(rs:List ResultVar)(fr:AF)(j:Option Code):finish P rs fr j=finish P rs ⟨0,fr.tmps,0,[],fr.defers,none⟩ j:=rfl
theorem au.calls(hP:bS P){g:FuncId}{fn:Func}{body:Code}{args:List AV}{vs:Array Value}{R:AV->AS->Prop}(cj:P.funcs[g]? =some fn)(ct:fn.body=some body)(oS:max fn.ntmps args.length<=top)(H:au P B s.nx (Fin P fn.results.toList R) ⟨g,dt args,max fn.ntmps args.length,[.code body],[],none⟩ s)(fi:bB s)(r:Rel B ρ s.h w)(hg:gC ρ)(hf:∀k,s.nx<=k->k<top->ρ k=none)(hv:ay ρ args vs.toList):
 Calls P g vs w fun e w'=>∃v x s3,e= .returned v/\R x s3/\s.nx<=s3.nx/\bB s3/\ki B ρ s s3 w x v w':=by
 intro cs;let b:Frame:={(default:Frame) with fn:=g,kind:=.normal,roundOf:=none};let a:Act:={tmps:=vs++Array.replicate (fn.ntmps - vs.size) undef,defers:=[]};have xf:Frame.enter P g vs .normal=b.atR a [.code body]:=by simp[Frame.enter,Frame.atR,cj,ct,b,a]
 have bC:Fr ρ ⟨g,dt args,max fn.ntmps args.length,[.code body],[],none⟩ b a:=⟨rfl,rfl,trivial,rfl,.cons (hP.code g fn body cj ct) .nil⟩;have ax:At B ρ s (max fn.ntmps args.length) (dt args) w a:=⟨Ht hv _ oS,r,hg,oS,fi⟩;obtain⟨fr,j,s2,σ,a',w',⟨x,s3,pI,hR⟩,en,e0,GY,e1,e2,e3,e4,e5,e6,e7,e8⟩:=H ρ w b a cs bC ax hf;have OZ:finish P fn.results.toList fr j s2= .ok x s3:=by rw[EM];exact pI
 have zP:bB s2:=e2.cm;have ahR:Ext s.nx s2.nx ρ σ:=by
  refine⟨fun k y hk=>?_,fun k gq hk=>?_⟩
  ·by_cases qt:k<top
   ·by_cases q:s.nx<=k
    ·rw[hf k q qt] at hk;cases hk
    ·rw[e0 k aj qt];exact hk
   ·exact GY k y aj hk
  ·by_cases q:k<s.nx
   ·exact e0 k q gq
   ·rw[e1 k aj gq,hf k aj gq]
 obtain⟨hj,u2,s4,rs,h7,h9,hx⟩:=LX OZ;have o7:bB s4:=(YF.qT _).cm zP h7;have pR:Leaves j fr.todo:=e7;obtain⟨d1,d2,w2,d3,d4,d5⟩:=Hs (P:=P) (fr:=b) (cs:=cs) zP e2.rel e3 h7;obtain⟨f1,f2,us,f3,f4⟩:=Ho (P:=P) (w:=w2) e2.tr o7 d3 h9;have jo:bB s3:=(YF.sr P fr.tmps _).cm o7 h9;have Gh:Steps P (lone (b.atR a' fr.todo) cs w')<|lone {b.atR a' fr.todo with mode:=.returning} cs w':=by
  rcases hj with rfl|rfl
  ·have e:fr.todo=[]:=pR;rw[e];exact .one<|stepR_end rfl
  ·obtain⟨k,e⟩:=pR;rw[e];exact .one<|stepR_ret rfl
 have xy:=d5 {b.atR a' fr.todo with mode:=.returning} cs jF rfl;have lA:(results fn a'.tmps).run P w2= .ok (oq us) w2:=by
  unfold results;rw[Array.mapM_eq_mapM_toList];simp only[Sem.run_bind,map_eq_pure_bind,Sem.run_pure];refine Eq.trans (congrArg (fun r:Result (List Value)=>(r.andThen fun a w'=>Result.ok a.toArray w').andThen fun a w'=>Result.ok (if h:a.size=1 then a[0] else Value.tuple a) w') f3) ?_;have:∀l:List Value,(Result.ok (if h:l.toArray.size=1 then l.toArray[0] else Value.tuple l.toArray) w2:Result Value)= .ok (oq l) w2:=by
   intro l
   match l with
   |[]=>rfl
   |[v]=>rfl
   |v::v2::l=>simp[oq]
  exact this us
 have Xw:s3.nx=s2.nx:=by rw[f2,d1]
 have hle:s.nx<=s3.nx:=by rw[Xw];exact en
 refine⟨.returned<|oq us,w2,{b.atR a' fr.todo with mode:=.returning,defers:=[]},⟨_,x,s3,rfl,hR,hle,jo,?_⟩,?_,rfl,?_⟩
 ·exact⟨σ,by rw[Xw];exact ahR,by rw[hx];exact Mn f4,by rw[f1];exact d3,e4.trans d4⟩
 ·rw[xf];exact Steps.trans e8<|Steps.trans Gh xy
 ·exact⟨rfl,rfl,rfl,fn,cj,lA⟩
end
end Go.Rn
namespace Go.Rn
variable {P:Program} {YG:aK} {nt:Nat} {ops:Array Oper} {t t1:Tr AV}
theorem si{P:Program}{w:World}{f:FuncId}{fn:Func}{body:Code}{vs:Array Value}(cj:P.funcs[f]? =some fn)(ct:fn.body=some body)(dE:(fn.name == "runtime.NumGoroutine")=false):(callFunc f vs).run P w= .ok (.enter f vs) w:=by
 have FV:(program).run P w= .ok P w:=rfl;have hn:fn.name≠ "runtime.NumGoroutine" :=by simpa using dE
 simp only[callFunc,Sem.run_bind,FV,Result.andThen_ok,cj,dE,ct];simp
theorem uE{K:Nat}:∀{l:List<|List AV},(∀c∈l,c.length=K)->l.flatten.length=l.length*K
 |[],_=>by simp
 |c::l,h=>by rw[List.flatten_cons,List.length_append,h c List.mem_cons_self,uE fun c' h'=>h c'<|List.mem_cons_of_mem _ h',List.length_cons,Nat.add_mul,Nat.one_mul];omega
theorem aeF{s:AS}{ty yt:TypeId}{x y:Operand}{k:IntKind}{a b c:Int}(hx:aH t x=some (.int k a))(hy:aH t y=some (.int k b))(h0:b≠0)(h:a.tmod b=c):(du P<|.binOp .rem ty x y yt).val YG t s= .ok (.int k c) s:=acZ hx hy rfl rfl (by subst h;simp only[Dd,decide_eq_false h0])
end Go.Rn
namespace Go.Rn
open Go.RowKit
section
variable {P:Program} {YG:aK} {nt:Nat} {ops:Array Oper} {t t1:Tr AV}
end
noncomputable section
end
end Go.Rn
namespace Go.Rn
open Go.RowKit
variable {t1:Tr AV} {g:Option<|Nat×Bool} {d:Option Tmp} {v:AV} {id:Nat} {c:Code}
noncomputable section
instance:Inhabited<|Tr AV:=⟨.nil⟩
def Chunk(P:Program)(YG:aK)(G:AF->AS->Prop):Prop:=∀(k:Nat) (fr aO:AF) (s s1:AS),dV P YG k fr s= .ok (.go aO) s1->G aO s1->G fr s
def Ev(P:Program)(YG:aK)(R:AF->Option Code->AS->Prop)(fr:AF)(s:AS):Prop:=∃k aO j s1,dV P YG k fr s= .ok (.leave aO j) s1/\R aO j s1
def zp(P:Program)(B:aJ)(J:Nat)(Q:Tr AV->List Nat->Option Code->AS->Prop)(fr:AF)(s:AS):Prop:=J<=s.nx->au P B J Q fr s
def xR(P:Program)(YG:aK)(G:AF->AS->Prop)(f nt:Nat)(K:List Item)(ops:Array Oper)(i:Nat)(t:Tr AV)(s:AS):Prop:=∃t1 s1,pt P YG nt ops i (ops.size - i) t s= .ok t1 s1/\G ⟨f,t1,nt,K,[],none⟩ s1
def qy(P:Program)(YG:aK)(G:AF->AS->Prop)(f nt:Nat)(K:List Item)(ops:Array Oper)(acc:List Met)(i:Nat)(t:Tr AV)(s:AS):Prop:=∃t1 ms s1,tH P YG nt ops i (ops.size - i) t s= .ok (t1,ms) s1/\qf (Region.before ops) (acc++ms) (acc++ms)=true/\G ⟨f,t1,nt,K,[],none⟩ s1
def I4(s:AS):AS:=⟨s.h,s.nx,s.nx,[],[]⟩
def Dk(s s1:AS):AS:=⟨s1.h,s1.nx,s.mark,below s.mark s1.rd++s.rd,below s.mark s1.wr++s.wr⟩
def Ka(i:Nat)(s s1:AS):Met:=⟨i,below s.nx s1.rd,below s.nx s1.wr,s.nx,s1.nx⟩
end
section
variable {P:Program} {B:aJ} {J:Nat} {Q:Tr AV->List Nat->Option Code->AS->Prop} {s s1:AS} {YG:aK} {t:Tr AV} {ops:Array Oper} {f nt i:Nat} {K:List Item} {G:AF->AS->Prop} {acc:List Met}
theorem Chunk.Eb(bH:P.follows .mixedOrders=true)(hc:fQ P B YG)(hl:∀t a,YF<|YG t a):Chunk P YG<|zp P B J Q:=by intro k fr aO s s1 h H h0 ρ w b a cs bC ax hf;have le:=(YF.dV P hl k fr).le ax.cm h;exact au.chunk bH hc hl h h0 (H<|Nat.le_trans h0 le) ρ w b a cs bC ax hf
theorem SP:∀{k m:Nat} {fr aO:AF} {s s1:AS},dV P YG k fr s= .ok (.go aO) s1->dV P YG (k+m) fr s=dV P YG m aO s1
 |0,m,fr,aO,s,s1,h=>by cases h;rw[Nat.zero_add]
 |k+1,m,fr,aO,s,s1,h=>by
  obtain⟨y,s2,h1,h2⟩:=M.aN (show((ja P YG fr).bind fun x=> @bq.rec (fun _=>M bq) (dV P YG k) (fun fr j=>M.pure<|.leave fr j) x) s= .ok _ s1 from h);cases y with
  |go pS=>rw[show k+1+m=(k+m)+1 by omega,AD h1];exact SP h2
  |leave pS j'=>cases h2
theorem Chunk.ev{R:AF->Option Code->AS->Prop}:Chunk P YG<|Ev P YG R:=by intro k fr aO s s1 h ⟨m,ks,j,s2,h1,h2⟩;exact⟨k+m,ks,j,s2,by rw[SP h];exact h1,h2⟩
theorem Chunk.zM(hG:Chunk P YG G)(Dj:c= .region id (opsOf c) false)(H:xR P YG G f nt K (opsOf c) 0 t s):G ⟨f,t,nt,.code c::K,[],none⟩ s:=by
 obtain⟨t1,s1,h,H⟩:=H;refine hG 1 _ _ _ s1 (AD ?_) H;have ht:((opsOf c).toList.drop 0).take ((opsOf c).size - 0)=(opsOf c).toList:=by rw[List.drop_zero,Nat.sub_zero, ←Array.length_toList,List.take_length]
 unfold pt at h;rw[ht] at h;rw[Dj];show((jf P YG nt (opsOf c) (opsOf c).toList t).bind fun t=>M.pure<|bq.go ⟨f,t,nt,K,[],none⟩) s=_;rw[M.bK h];rfl
theorem Chunk.ahS(hG:Chunk P YG G)(Dj:c= .region id (opsOf c) true)(H:qy P YG G f nt K (opsOf c) [] 0 t s):G ⟨f,t,nt,.code c::K,[],none⟩ s:=by
 obtain⟨t1,ms,s1,h,hm,H⟩:=H;rw[List.nil_append] at hm;refine hG 1 _ _ _ s1 (AD ?_) H;have ht:((opsOf c).toList.drop 0).take ((opsOf c).size - 0)=(opsOf c).toList:=by rw[List.drop_zero,Nat.sub_zero, ←Array.length_toList,List.take_length]
 unfold tH at h;rw[ht] at h;rw[Dj];show((p7 P YG nt (opsOf c) t).bind fun t=>M.pure<|bq.go ⟨f,t,nt,K,[],none⟩) s=_;have:p7 P YG nt (opsOf c) t s= .ok t1 s1:=by unfold p7;rw[M.bK h];show aG (qf (Region.before<|opsOf c) ms ms) (M.pure t1) s1=_;rw[hm,dq];rfl
 rw[M.bK this];rfl
theorem xR.done(h:Nat.ble ops.size i=true)(H:G ⟨f,t,nt,K,[],none⟩ s):xR P YG G f nt K ops i t s:=by refine⟨t,s,?_,H⟩;rw[show ops.size - i=0 by have:=aL.1 h;omega];unfold pt;rw[List.take_zero];rfl
theorem qy.done(h:(Nat.ble ops.size i&&qf (Region.before ops) acc acc)=true)(H:G ⟨f,t,nt,K,[],none⟩ s):qy P YG G f nt K ops acc i t s:=by obtain⟨h1,h2⟩:=and_true.1 h;refine⟨t,[],s,?_,by rw[List.append_nil];exact h2,H⟩;rw[show ops.size - i=0 by have:=aL.1 h1;omega];unfold tH;rw[List.take_zero];rfl
theorem xR.step(hn:Nat.blt i ops.size=true)(h:pt P YG nt ops i 1 t s= .ok t1 s1)(H:xR P YG G f nt K ops (i+1) t1 s1):xR P YG G f nt K ops i t s:=by obtain⟨t2,s2,h1,h2⟩:=H;have bZ:=(blt_eq _ _).mp hn;refine⟨t2,s2,?_,h2⟩;rw[show ops.size - i=1+(ops.size - (i+1)) by omega];exact Sa h h1
theorem qy.step{ms:List Met}(hn:Nat.blt i ops.size=true)(h:tH P YG nt ops i 1 t s= .ok (t1,ms) s1)(H:qy P YG G f nt K ops (acc++ms) (i+1) t1 s1):qy P YG G f nt K ops acc i t s:=by obtain⟨t2,ms2,s2,h1,h2,h3⟩:=H;have bZ:=(blt_eq _ _).mp hn;refine⟨t2,_,s2,?_,by rw[←List.append_assoc];exact h2,h3⟩;rw[show ops.size - i=1+(ops.size - (i+1)) by omega];exact Tx rfl aj h h1
theorem Ur{op:Op}(h:xO ops i=some (op,d,g)):Nat.blt i ops.size=true:=by obtain⟨o,e,_⟩:=Ic h;rw[blt_eq];exact(Array.getElem?_eq_some_iff.1 e).1
noncomputable def JG(ops:Array Oper)(g:Option<|Nat×Bool)(t:Tr AV):Bool:=
 match g with
 |none=>true
 |some g=>sP ops t g.1&&p9 ops g t
theorem aeG{op:Op}(ho:xO ops i=some (op,d,g))(hw:JG ops g t=true)(h:(du P op).val YG t s= .ok v s1)(hp:je nt t d v=some t1):pt P YG nt ops i 1 t s= .ok t1 s1:=by
 cases g with
 |none=>exact cx ho h hp
 |some g=>obtain⟨h1,h2⟩:=and_true.1 (show(sP ops t g.1&&p9 ops g t)=true from hw);exact ahQ ho h1 h2 h hp
theorem ac4{op:Op}(ho:xO ops i=some (op,d,g))(hw:JG ops g t=true)(h:(du P op).val YG t (I4 s)= .ok v s1)(hp:je nt t d v=some t1):tH P YG nt ops i 1 t s= .ok (t1,[Ka i s s1]) (Dk s s1):=by
 obtain⟨o,e,rfl,rfl,e3⟩:=Ic ho;unfold tH;have hl:(ops.toList.drop i).take 1=[o]:=by
  have h1:ops.toList[i]? =some o:=by rw[Array.getElem?_toList];exact e
  obtain⟨hi,e⟩:=List.getElem?_eq_some_iff.1 h1;rw[List.drop_eq_getElem_cons hi,e];rfl
 rw[hl];have ha:gM P YG nt ops o t (I4 s)= .ok t1 s1:=by
  unfold gM Bd;rw[e3];cases g with
  |none=>show rL (du P o.op) o.dst YG nt t _=_;unfold rL;rw[M.bK h,hp];rfl
  |some g=>obtain⟨h1,h2⟩:=and_true.1 (show(sP ops t g.1&&p9 ops g t)=true from hw);show tq ops g (du P o.op) o.dst YG nt t _=_;unfold tq;rw[h1,h2,dq];show((du P o.op).val YG t).bind (fun v=>lift<|je nt t o.dst v) _=_;rw[M.bK h,hp];rfl
 have hal:alone i (gM P YG nt ops o t) s= .ok (t1,Ka i s s1) (Dk s s1):=by obtain⟨hh,nx,mark,rd,wr⟩:=s;obtain⟨x8,pO,OV,gp,nU⟩:=s1;unfold alone;simp only[yB];show(@R.rec _ (fun _=>R<|Tr AV×Met) .bad (fun a s1=>_)<|gM P YG nt ops o t<|I4 ⟨hh,nx,mark,rd,wr⟩)=_;rw[ha];rfl
 show((alone i<|gM P YG nt ops o t).bind fun x=>(mW P YG nt ops [] (i+1) x.1).bind fun y=>M.pure (y.1,x.2::y.2)) s=_;rw[M.bK hal];rfl
def Py:BinOp->Int->Int->Option Bool
 | .lss,a,b=>some<|decide<|a<b
 | .leq,a,b=>some<|decide<|a<=b
 | .gtr,a,b=>some<|decide<|a>b
 | .geq,a,b=>some<|decide<|a>=b
 | .eql,a,b=>some<|a == b
 | .neq,a,b=>some<|!(a == b)
 |_,_,_=>none
theorem aeH{op:BinOp}{ty yt:TypeId}{x y:Operand}{k:IntKind}{a b:Int}{r:Bool}(hx:aH t x=some (.int k a))(hy:aH t y=some (.int k b))(h:Py op a b=some r):(du P<|.binOp op ty x y yt).val YG t s= .ok (.bool r) s:=by cases op<;>simp only[Py,Option.some.injEq,reduceCtorEq] at h<;>exact acY hx hy rfl rfl (by subst h;rfl)
theorem zp.start(h:Nat.ble J s.nx=true){fr:AF}(H:zp P B J Q fr s):au P B J Q fr s:=H<|aL.1 h
theorem E4{g:FuncId}{fn:Func}(h:P.funcs[g]? =some fn)(hb:fn.body.isSome=true):fn.body=some (aR P g []):=by
 unfold aR Vo;rw[h];simp only[sC];cases e:fn.body with
 |none=>rw[e] at hb;cases hb
 |some c=>rfl
end
end Go.Rn
namespace Go.Rn
open Go.RowKit
variable {α:Type} {l:List α} {i K n j:Nat} {enc:α->List AV} {c x c':α}
theorem SQ{α:Type}(u v:Option α):∀(p q:List Bool) (t:Tr α),p≠q->Tr.ma u p (Tr.ma v q t)=Tr.ma v q (Tr.ma u p t)
 |[],[],_,h=>absurd rfl h
 |[],b::q,t,_=>by
  cases t with
  |nil=>cases b<;>rfl
  |node l x r=>cases b<;>rfl
 |a::p,[],t,_=>by
  cases t with
  |nil=>cases a<;>rfl
  |node l x r=>cases a<;>rfl
 |a::p,b::q,t,h=>by
  have ih:∀t:Tr α,a=b->Tr.ma u p (Tr.ma v q t)=Tr.ma v q (Tr.ma u p t):=fun t e=>SQ u v p q t (fun e2=>h<|by rw[e,e2]);cases t with
  |nil=>cases a<;>cases b<;>simp[Tr.MM,Tr.EF,ih]
  |node l x r=>cases a<;>cases b<;>simp[Tr.EF,ih]
theorem Mr(u v:Option α):∀(p:List Bool) (t:Tr α),Tr.ma u p (Tr.ma v p t)=Tr.ma u p t
 |[],t=>by cases t<;>rfl
 |a::p,t=>by
  cases t with
  |nil=>cases a<;>simp[Tr.MM,Tr.EF,Mr u v p]
  |node l x r=>cases a<;>simp[Tr.EF,Mr u v p]
theorem put_comm(t:Tr α)(n m:Nat)(u v:Option α)(hn:n<top)(h:n≠m):(t.put m v).put n u=(t.put n u).put m v:=SQ u v _ _ t fun e=>Ue hn (fun e2=>h e2.symm) e.symm
theorem abM(t:Tr α)(n:Nat)(u v:Option α):(t.put n v).put n u=t.put n u:=Mr u v _ t
theorem TA:∀(l:List α) (i:Nat) (t:Tr α) (n:Nat),n<i->n<top->(Tr.fill l i t).put n (some x)=Tr.fill l i (t.put n<|some x)
 |[],_,_,_,_,_=>rfl
 |y::l,i,t,n,h,hn=>by show(Tr.fill l (i+1)<|t.put i<|some y).put n (some x)=Tr.fill l (i+1) ((t.put n<|some x).put i<|some y);rw[TA l (i+1) _ n aj hn,put_comm t n i _ _ hn aj]
theorem SR:∀(l:List α) (i k:Nat) (t:Tr α),k<l.length->i+k<top->(Tr.fill l i t).put (i+k) (some x)=Tr.fill (l.set k x) i t
 |[],_,_,_,h,_=>by simp at h
 |y::l,i,0,t,_,h=>by show(Tr.fill l (i+1)<|t.put i<|some y).put i (some x)=Tr.fill l (i+1) (t.put i<|some x);rw[TA l (i+1) _ i aj h,abM]
 |y::l,i,k+1,t,h,ht=>by show(Tr.fill l (i+1)<|t.put i<|some y).put (i+(k+1)) (some x)=Tr.fill (l.set k x) (i+1) (t.put i<|some y);rw[show i+(k+1)=i+1+k by omega];exact SR l (i+1) k _ (by simpa using h) aj
def im:List α->Nat->List α->List α
 |l,_,[]=>l
 |l,k,x::r=>im (l.set k x) (k+1) r
theorem SS{α:Type}:∀(r l:List α) (k:Nat),k+r.length<=l.length->l.length<=top->Tr.fill r k (Tr.fill l 0 .nil)=Tr.fill (im l k r) 0 .nil
 |[],_,_,_,_=>rfl
 |x::r,l,k,h,ht=>by simp only[List.length_cons] at h;show Tr.fill r (k+1) ((Tr.fill l 0 .nil).put k<|some x)=Tr.fill (im (l.set k x) (k+1) r) 0 .nil;have:=SR (x:=x) l 0 k .nil aj aj;rw[Nat.zero_add] at this;rw[this];exact SS r (l.set k x) (k+1) (by rw[List.length_set];omega) (by rw[List.length_set];exact ht)
theorem NC{α:Type}:∀(r l:List α) (k i:Nat),k+r.length<=l.length->(im l k r)[i]? =if k<=i/\i<k+r.length then r[i - k]? else l[i]?
 |[],l,k,i,_=>by show l[i]? =_;simp;intro h1 h2;omega
 |x::r,l,k,i,h=>by
  simp only[List.length_cons] at h ⊢;show(im (l.set k x) (k+1) r)[i]? =_;rw[NC r (l.set k x) (k+1) i (by rw[List.length_set];omega)];by_cases e:i=k
  ·subst e;rw[if_neg aj,if_pos aj,Nat.sub_self,List.getElem?_set];simp;omega
  ·by_cases q:k+1<=i/\i<k+1+r.length
   ·rw[if_pos q,if_pos aj];obtain⟨j,rfl⟩:∃j,i=k+1+j:=⟨i - (k+1),by omega⟩;rw[show k+1+j - (k+1)=j by omega,show k+1+j - k=j+1 by omega];simp
   ·rw[if_neg q,if_neg aj,List.getElem?_set_ne aj]
theorem AG{K:Nat}{β:Type}:∀{L:List<|List β} {i j:Nat},(∀c∈L,c.length=K)->i<L.length->j<K->∀{c:List β},L[i]? =some c->L.flatten[i*K+j]? =c[j]?
 |[],_,_,_,h,_,_,_=>by simp at h
 |x::L,0,j,hL,_,hj,c,hc=>by simp at hc;subst hc;have hx:=hL x List.mem_cons_self;rw[List.flatten_cons,Nat.zero_mul,Nat.zero_add,List.getElem?_append_left aj]
 |x::L,i+1,j,hL,hi,hj,c,hc=>by have hx:=hL x List.mem_cons_self;rw[List.flatten_cons,List.getElem?_append_right (by rw[hx,Nat.add_mul];omega),hx,show(i+1)*K+j - K=i*K+j by rw[Nat.add_mul];omega];exact AG (fun c hc=>hL c<|List.mem_cons_of_mem _ hc) (by simpa using hi) hj (by simpa using hc)
theorem abN(he:∀x,(enc x).length=K){r:List AV}(hc:l[i]? =some c)(hr:enc c'=im (enc c) j r)(hj:j+r.length<=K):im (l.map enc).flatten (i*K+j) r=((l.set i c').map enc).flatten:=by
 have hi:=(List.getElem?_eq_some_iff.1 hc).1;have dJ:∀(l:List α),∀c∈l.map enc,c.length=K:=fun l c hc=>by obtain⟨x,_,rfl⟩:=List.mem_map.1 hc;exact he x
 have yg:∀l:List α,(l.map enc).flatten.length=l.length*K:=fun l=>by rw[uE<|dJ l,List.length_map]
 have hmul:i*K+K<=l.length*K:=by have:=Nat.mul_le_mul_right K hi;rw[Nat.succ_mul] at this;exact this
 apply List.ext_getElem?;intro m;rw[NC _ _ _ _ (by rw[yg];omega)];by_cases hm:m<l.length*K
 ·have hK:0<K:=by
   cases K with
   |zero=>simp at hm
   |succ k=>omega
  have hq:m / K<l.length:=by rw[Nat.div_lt_iff_lt_mul hK];exact hm
  have Ec:m=m / K*K+m % K:=by rw[Nat.mul_comm];exact(Nat.div_add_mod m K).symm
  have Gi:m % K<K:=Nat.mod_lt _ hK;have hold:(l.map enc).flatten[m]? =(enc<|l[m / K]'hq)[m % K]? :=by
   conv=>lhs;rw[Ec]
   exact AG (dJ l) (by rw[List.length_map];exact hq) Gi (by rw[List.getElem?_map,List.getElem?_eq_getElem hq];rfl)
  have dY:m / K<(l.set i c').length:=by rw[List.length_set];exact hq
  have vE:((l.set i c').map enc).flatten[m]? =(enc<|(l.set i c')[m / K]'dY)[m % K]? :=by
   conv=>lhs;rw[Ec]
   exact AG (dJ _) (by rw[List.length_map];exact dY) Gi (by rw[List.getElem?_map,List.getElem?_eq_getElem dY];rfl)
  rw[vE,hold];by_cases e:m / K=i
  ·have hci:l[m / K]'hq=c:=by
    have:l[m / K]? =some c:=by rw[e];exact hc
    rw[List.getElem?_eq_getElem hq] at this;injection this
   have qH:(l.set i c')[m / K]'dY=c':=by simp[e]
   rw[qH,hci,hr,NC _ _ _ _ (by rw[he];exact hj)];have al1:m=i*K+m % K:=by rw[e] at Ec;exact Ec
   by_cases q:j<=m % K/\m % K<j+r.length
   ·rw[if_pos aj,if_pos q];congr 1;omega
   ·rw[if_neg (by intro q2;apply q;omega),if_neg q]
  ·have qH:(l.set i c')[m / K]'dY=l[m / K]'hq:=by rw[List.getElem_set_ne fun e2=>e e2.symm]
   rw[qH,if_neg];intro q;apply e;have h1:m<(i+1)*K:=by rw[Nat.add_mul];omega
   have h2:i*K<=m:=by omega
   have h3:=(Nat.le_div_iff_mul_le hK).2 h2;have h4:=(Nat.div_lt_iff_lt_mul hK).2 h1;omega
 ·rw[if_neg aj,List.getElem?_eq_none (by rw[yg];omega),List.getElem?_eq_none (by rw[yg,List.length_set];omega)]
noncomputable section
def aU(n:Nat)(s:AS):AS:= @Bool.rec (fun _=>AS) s ⟨s.h,s.nx,s.mark,n::s.rd,s.wr⟩<|Nat.blt n s.mark
def fl(n:Nat)(o:Option ae)(s:AS):AS:= @Bool.rec (fun _=>AS) ⟨s.h.put n o,s.nx,s.mark,s.rd,s.wr⟩ ⟨s.h.put n o,s.nx,s.mark,n::s.rd,n::s.wr⟩<|Nat.blt n s.mark
end
section
variable {P:Program} {s:AS} {YG:aK} {t:Tr AV}
theorem lN{o:ae}(h1:Nat.blt n s.nx=true)(h2:s.h.get n=some o):bt n s= .ok o (aU n s):=by obtain⟨hh,nx,mark,rd,wr⟩:=s;have e1:Nat.blt n nx=true:=h1;have e2:hh.get n=some o:=h2;show @Bool.rec (fun _=>R ae) .bad (@Option.rec ae (fun _=>R ae) .bad (fun o=> @Bool.rec (fun _=>R ae) (.ok o ⟨hh,nx,mark,rd,wr⟩) (.ok o ⟨hh,nx,mark,n::rd,wr⟩)<|Nat.blt n mark)<|hh.get n) (Nat.blt n nx)=_;rw[e1,e2];show @Bool.rec (fun _=>R ae) (.ok o ⟨hh,nx,mark,rd,wr⟩) (.ok o ⟨hh,nx,mark,n::rd,wr⟩) (Nat.blt n mark)= .ok o (@Bool.rec (fun _=>AS) ⟨hh,nx,mark,rd,wr⟩ ⟨hh,nx,mark,n::rd,wr⟩<|Nat.blt n mark);cases Nat.blt n mark<;>rfl
theorem fL(n:Nat)(s:AS):(aU n s).h=s.h/\(aU n s).nx=s.nx/\(aU n s).mark=s.mark:=by unfold aU;cases Nat.blt n s.mark<;>exact⟨rfl,rfl,rfl⟩
theorem wT{o:Option ae}{p:ae}(h1:Nat.blt n s.nx=true)(h2:s.h.get n=some p)(h3:p.dh=false)(ht:Nat.blt n top=true):bJ n o s= .ok () (fl n o s):=by obtain⟨hh,nx,mark,rd,wr⟩:=s;have e1:(Nat.blt n nx&&Nat.blt n top)=true:=and_true.2 ⟨h1,ht⟩;have e2:hh.get n=some p:=h2;show @Bool.rec (fun _=>R Unit) .bad (@Option.rec ae (fun _=>R Unit) .bad (fun p=> @Bool.rec (fun _=>R Unit) (@Bool.rec (fun _=>R Unit) (.ok () ⟨hh.put n o,nx,mark,rd,wr⟩) (.ok () ⟨hh.put n o,nx,mark,n::rd,n::wr⟩)<|Nat.blt n mark) .bad p.dh)<|hh.get n) (Nat.blt n nx&&Nat.blt n top)=_;rw[e1,e2];show @Bool.rec (fun _=>R Unit) (@Bool.rec (fun _=>R Unit) (.ok () ⟨hh.put n o,nx,mark,rd,wr⟩) (.ok () ⟨hh.put n o,nx,mark,n::rd,n::wr⟩)<|Nat.blt n mark) .bad p.dh=_;rw[h3];show @Bool.rec (fun _=>R Unit) (.ok () ⟨hh.put n o,nx,mark,rd,wr⟩) (.ok () ⟨hh.put n o,nx,mark,n::rd,n::wr⟩) (Nat.blt n mark)= .ok () (@Bool.rec (fun _=>AS) ⟨hh.put n o,nx,mark,rd,wr⟩ ⟨hh.put n o,nx,mark,n::rd,n::wr⟩<|Nat.blt n mark);cases Nat.blt n mark<;>rfl
theorem yE(he:∀x,(enc x).length=K)(l:List α):(l.map enc).flatten.length=l.length*K:=by rw[uE (K:=K) (fun c hc=>by obtain⟨x,_,rfl⟩:=List.mem_map.1 hc;exact he x),List.length_map]
theorem Us(he:∀x,(enc x).length=K){k:Nat}(hc:l[i]? =some c)(hj:j+k<=K):i*K+j+k<=(l.map enc).flatten.length/\((l.map enc).flatten.drop<|i*K+j).take k=((enc c).drop j).take k:=by
 have hi:=(List.getElem?_eq_some_iff.1 hc).1;have hmul:i*K+K<=l.length*K:=by have:=Nat.mul_le_mul_right K hi;rw[Nat.succ_mul] at this;exact this
 refine⟨by rw[yE he];omega,?_⟩;apply List.ext_getElem?;intro m;rw[List.getElem?_take,List.getElem?_take];split
 ·rename_i hm;rw[List.getElem?_drop,List.getElem?_drop,Nat.add_assoc];exact AG (fun c hc=>by obtain⟨x,_,rfl⟩:=List.mem_map.1 hc;exact he x) (by rw[List.length_map];exact hi) aj (by rw[List.getElem?_map,hc];rfl)
 ·rfl
theorem TB(h:l[i]? =some c):(l.set i c')[i]? =some c':=by have hi:=(List.getElem?_eq_some_iff.1 h).1;rw[List.getElem?_set_self hi]
end
end Go.Rn
namespace Go.Rn
open Go.RowKit
def TC(W:World):Ren:=fun k=>if k<fI then some (k,match W.heap[k]? with|some (.cells c _ _)=>c.size|_=>0) else none
end Go.Rn
namespace Go.Rn
variable {ops:Array Oper}
def aeI(ops:Array Oper):Bool:=ops.toList.zipIdx.all fun x=>x.1.after.toList.all fun e=> !Region.binds .any e||decide (e.on<x.2)
def O0(ops:Array Oper)(x y:Oper):Bool:=
 match x.dst with
 |none=>false
 |some d=>(y.looksAt ops).contains d||y.dst == some d
def aeJ(ops:Array Oper)(b:Array Nat):Bool:=ops.toList.zipIdx.all fun x=>ops.toList.zipIdx.all fun y=> !(O0 ops x.1 y.1)||(Nat.beq x.2 y.2|| !loose b x.2 y.2)
def Pz(ops:Array Oper):Bool:=aeI ops&&aeJ ops (CheckFast.beforeF ops)
def sD:Code->Bool
 | .seq a b=>sD a&&sD b
 | .cond _ a b=>sD a&&sD b
 | .block _ b=>sD b
 | .loop b=>sD b
 | .scope b=>sD b
 | .region _ ops draw=> !draw||Pz ops
 | .rangeFunc _ _ a b=>sD a&&sD b
 |_=>true
def aga(P:Program):Bool:=P.funcs.toList.all fun fn=>match fn.body with
 |none=>true
 |some c=>sD c
theorem L5{i:Nat}{o:Oper}(h:ops[i]? =some o):(o,i)∈ops.toList.zipIdx:=by rw[List.mem_zipIdx_iff_getElem?];simpa using h
theorem ac5(h:Pz ops=true):JA ops:=by
 unfold Pz at h;obtain⟨h1,h2⟩:=Bool.and_eq_true_iff.1 h;rw[CheckFast.beforeF_eq] at h2;refine⟨fun j o e ho hm hb=>?_,fun i j x y d lD hx hy hd cP=>?_⟩
 ·have:=List.all_eq_true.1 (List.all_eq_true.1 h1 _<|L5 ho) e<|Array.mem_toList_iff.2 hm;simp only[hb,Bool.not_true,Bool.false_or,decide_eq_true_eq] at this;exact this
 ·have:=List.all_eq_true.1 (List.all_eq_true.1 h2 _<|L5 hx) _<|L5 hy;have hc:O0 ops x y=true:=by
   unfold O0;rw[hd];simp only[Bool.or_eq_true,beq_iff_eq];rcases cP with q|q
   ·exact .inl<|List.contains_iff_mem.2 q
   ·exact .inr q
  simp only[hc,Bool.not_true,Bool.false_or,Bool.or_eq_true,Bool.not_eq_true'] at this;rcases this with q|q
  ·exact absurd (Nat.beq_eq.mp q) lD
  ·exact q
theorem ZT:∀{c:Code},sD c=true->iz c:=by
 intro c;induction c with
 |seq a b BE BF=>intro h;obtain⟨h1,h2⟩:=Bool.and_eq_true_iff.1 h;exact⟨BE h1,BF h2⟩
 |cond _ a b BE BF=>intro h;obtain⟨h1,h2⟩:=Bool.and_eq_true_iff.1 h;exact⟨BE h1,BF h2⟩
 |block _ b ih=>intro h;exact ih h
 |loop b ih=>intro h;exact ih h
 |scope b ih=>intro h;exact ih h
 |region id ops draw=>intro h hd;subst hd;exact ac5 h
 |rangeFunc _ _ a b BE BF=>intro h;obtain⟨h1,h2⟩:=Bool.and_eq_true_iff.1 h;exact⟨BE h1,BF h2⟩
 |_=>intro _;trivial
theorem als{P:Program}(hm:P.follows .mixedOrders=true)(h:aga P=true):bS P:=by refine⟨hm,fun f fn body hf hb=>?_⟩;have:=List.all_eq_true.1 h fn (List.mem_of_getElem?<|by simpa using hf);rw[hb] at this;exact ZT this
end Go.Rn
namespace Go.Rn
open Go.RowKit
noncomputable section
end
end Go.Rn
namespace Go.Rn
open Go.RowKit
noncomputable section
end
section
variable {P:Program} {s s1:AS} {YG:aK} {t:Tr AV}
end
end Go.Rn
namespace Go.Rn
end Go.Rn
namespace Go.Rn
open Go.RowKit
variable {ρ σ:Ren} {x:AV} {v:Value}
theorem ac6(k:IntKind)(lo hi:Int)(n:Int)(h:lo<=n/\n<=hi)(hk:(k.signed=true/\lo= -(2 ^ (k.bits - 1):Int)/\hi=(2 ^ (k.bits - 1):Int) - 1/\(2 ^ k.bits:Int)=2*(2 ^ (k.bits - 1):Int)/\(0:Int)<(2 ^ (k.bits - 1):Int))\/(k.signed=false/\lo=0/\hi=(2 ^ k.bits:Int) - 1)):IntKind.wrap k n=n:=by
 unfold IntKind.wrap;rcases hk with⟨hs,h1,h2,h3,h4⟩|⟨hs,h1,h2⟩
 ·simp only[hs,Bool.true_and,decide_eq_true_eq];subst h1;subst h2;rw[h3];generalize (2 ^ (k.bits - 1):Int)=p at*;by_cases q:0<=n
  ·have:n % (2*p)=n:=Int.emod_eq_of_lt q aj;rw[this,if_neg aj]
  ·have:n % (2*p)=n+2*p:=by rw[←Int.add_emod_right,Int.emod_eq_of_lt aj aj]
   rw[this,if_pos aj];omega
 ·simp only[hs,Bool.false_and];subst h1;subst h2;have:n % (2 ^ k.bits:Int)=n:=Int.emod_eq_of_lt h.1 aj;simp[this]
theorem EA{n:Int}(h: -9223372036854775808<=n/\n<=9223372036854775807):IntKind.wrap .i64 n=n:=ac6 .i64 _ _ n h<|.inl ⟨rfl,by decide,by decide,by decide,by decide⟩
section
variable {P:Program} {s s1:AS} {YG:aK} {t:Tr AV}
end
def AV.cM(x:AV):Bool:=match x with
 | .U n _ _=>Nat.ble top n
 |x=>x.flat
def AV.jI(x:AV):Bool:=match x with
 | .agg l=>l.all AV.cM
 |x=>x.cM
def AV.hi(x:AV):Bool:=match x with
 | .agg l=>l.all AV.cM
 | .tuple l=>l.all AV.jI
 |x=>x.cM
def jh(ρ σ:Ren):Prop:=∀k x,top<=k->ρ k=some x->σ k=some x
theorem qo.hi(h:jh ρ σ){n b sh:Nat}(ht:top<=n)(k:qo ρ n b sh):qo σ n b sh:=.inr ⟨ht,fun e=>k.high ht (by
 cases q:ρ (hn n b sh) with
 |none=>rfl
 |some x=>rw[h _ _ (gb _ _ _) q] at e;cases e)⟩
theorem VR.flat(h:x.flat=true)(k:VR ρ x v):VR σ x v:=by
 cases x<;>first|(simp only[VR] at k ⊢;exact k)|(cases h;done)|skip
 case slice a len cap=>cases a with
  |some _=>cases h
  |none=>cases cap with
   |known c=>simp only[VR] at k ⊢;exact k
   |aq _ _=>cases h
   |lost=>cases h
 all_goals
  rename_i a;cases a with
  |none=>simp only[VR] at k ⊢;exact k
  |some _=>cases h
theorem AV.uW(jq:jh ρ σ)(h:x.cM=true)(k:VR ρ x v):VR σ x v:=by
 unfold AV.cM at h;split at h
 ·have ht:=aL.1 h;simp only[VR] at k ⊢;exact k.imp id fun⟨b,sh,c,q1,q2⟩=>⟨b,sh,c,q1.hi jq ht,q2⟩
 ·exact VR.flat h k
theorem AV.ND(jq:jh ρ σ):∀{l:List AV} {vs:List Value},l.all AV.cM=true->ay ρ l vs->ay σ l vs
 |[],_,_,hv=>by simpa only[ay] using hv
 |y::l,vs,hy,hv=>by obtain⟨h1,h2⟩:=and_true.1 (show(y.cM&&l.all AV.cM)=true from hy);simp only[ay] at hv ⊢;obtain⟨a,as,e,h3,h4⟩:=hv;exact⟨a,as,e,AV.uW jq h1 h3,AV.ND jq h2 h4⟩
theorem AV.aeK(jq:jh ρ σ)(h:x.jI=true)(k:VR ρ x v):VR σ x v:=by
 unfold AV.jI at h;split at h
 ·simp only[VR] at k ⊢;obtain⟨a,e,q⟩:=k;exact⟨a,e,AV.ND jq h q⟩
 ·exact AV.uW jq h k
theorem AV.Ut(jq:jh ρ σ):∀{l:List AV} {vs:List Value},l.all AV.jI=true->ay ρ l vs->ay σ l vs
 |[],_,_,hv=>by simpa only[ay] using hv
 |y::l,vs,hy,hv=>by obtain⟨h1,h2⟩:=and_true.1 (show(y.jI&&l.all AV.jI)=true from hy);simp only[ay] at hv ⊢;obtain⟨a,as,e,h3,h4⟩:=hv;exact⟨a,as,e,AV.aeK jq h1 h3,AV.Ut jq h2 h4⟩
theorem AV.pB(jq:jh ρ σ)(h:x.hi=true)(k:VR ρ x v):VR σ x v:=by
 unfold AV.hi at h;split at h
 ·simp only[VR] at k ⊢;obtain⟨a,e,q⟩:=k;exact⟨a,e,AV.ND jq h q⟩
 ·simp only[VR] at k ⊢;obtain⟨a,e,q⟩:=k;exact⟨a,e,AV.Ut jq h q⟩
 ·exact AV.uW jq h k
theorem AV.A0(jq:jh ρ σ):∀{l:List AV} {vs:List Value},l.all AV.hi=true->ay ρ l vs->ay σ l vs
 |[],_,_,hv=>by simpa only[ay] using hv
 |y::l,vs,hy,hv=>by obtain⟨h1,h2⟩:=and_true.1 (show(y.hi&&l.all AV.hi)=true from hy);simp only[ay] at hv ⊢;obtain⟨a,as,e,h3,h4⟩:=hv;exact⟨a,as,e,AV.pB jq h1 h3,AV.A0 jq h2 h4⟩
theorem aeL:jh ρ<|gm ρ:=fun k x hk e=>by unfold gm;rw[if_pos hk];exact e
end Go.Rn
namespace Go.Rn
open Go.RowKit
def oT(sp:Sp)(g:FuncId)(m:aK->List AV->M AV):Sp:=fun f=>bif Nat.beq f g then some m else sp f
theorem Sc{sp:Sp}{g:FuncId}{m m':aK->List AV->M AV}{f:FuncId}(h:oT sp g m f=some m'):(f=g/\m'=m)\/sp f=some m':=by
 unfold oT at h;cases e:Nat.beq f g with
 |true=>rw[e] at h;injection h with h;exact .inl ⟨Nat.eq_of_beq_eq_true e,h.symm⟩
 |false=>rw[e] at h;exact .inr h
end Go.Rn
namespace Go.Rn
end Go.Rn

namespace Go.Rn
open Go.RowKit
noncomputable section
def dB(J:Nat)(h0:Tr ae)(ns:List Nat)(s:AS):AS:=match fG J h0 ns s with| .ok _ s1=>s1| .bad=>s
def pK(J:Nat)(h0:Tr ae)(ns:List Nat)(s:AS):Bool:=match fG J h0 ns s with| .ok _ _=>true| .bad=>false
end
theorem xg{J:Nat}{h0:Tr ae}{ns:List Nat}{s:AS}(h:pK J h0 ns s=true):fG J h0 ns s= .ok () (dB J h0 ns s):=by
 unfold pK at h;unfold dB;cases e:fG J h0 ns s with
 |bad=>rw[e] at h;cases h
 |ok u s1=>rfl
section
variable {P:Program} {s s1:AS} {YG:aK} {t:Tr AV}
end
def O1(n:Int):Prop:= -9223372036854775808<=n/\n<=9223372036854775807
instance (n:Int):Decidable<|O1 n:=by unfold O1;infer_instance
end Go.Rn
namespace Go.Rn
open Go.RowKit
variable {va:Bool} {rs ps:Array TypeId} {e:TypeId} {P:Program}
def IB(P:Program):DataW (List UInt8)->Option FuncId->Bool
 | .nil,none=>true
 | .held (b::r),some f=>(List.range P.funcs.size).filter (fun f=>(P.funcs[f]?).any (·.name.toUTF8.data.toList == b::r)) == [f]
 |_,_=>false
def AH(P:Program):List (DataW<|List UInt8)->List (Option FuncId)->Bool
 |[],[]=>true
 |d::ds,f::fs=>IB P d f&&AH P ds fs
 |_,_=>false
def agb(P:Program)(d:DataW<|List UInt8)(fs:List<|Option FuncId):Bool:=
 match d with
 | .agg ds=>AH P ds fs
 |_=>false
def IC:Option FuncId->AV
 |none=>.nilFunc
 |some f=>.func (.func f) [] []
def CW:Option FuncId->Value
 |none=>.nilFunc
 |some f=>.func (.func f) #[] #[]
theorem alu(ρ:Ren)(f:Option FuncId):VR ρ (IC f)<|CW f:=by
 cases f with
 |none=>simp only[IC,CW,VR]
 |some f=>simp only[IC,CW,VR,ay];exact⟨rfl,_,_,rfl,rfl,rfl⟩
theorem TE{α β:Type}{f:α->Option β}:∀{l:List α} {r:List β},l.mapM f=some r->l.length=r.length/\∀(i:Nat) (x:α),l[i]? =some x->∃y,r[i]? =some y/\f x=some y
 |[],r,h=>by simp at h;subst h;exact⟨rfl,fun i x hx=>by simp at hx⟩
 |a::l,r,h=>by
  rw[List.mapM_cons] at h;cases e:f a with
  |none=>simp[e] at h
  |some b=>
   cases e2:l.mapM f with
   |none=>simp[e,e2] at h
   |some bs=>
    simp[e,e2] at h;subst h;obtain⟨h1,h2⟩:=TE e2;refine⟨by simp[h1],fun i x hx=>?_⟩;cases i with
    |zero=>simp at hx;subst hx;exact⟨b,rfl,e⟩
    |succ i=>simp at hx;obtain⟨y,h3,h4⟩:=h2 i x hx;exact⟨y,by simpa using h3,h4⟩
theorem YZ{w:World}{fuel:Nat}{v:Value}{d:DataW<|List UInt8}{q:List MemPlace}{f:Option FuncId}(he:P.underlying e=some (.func ps rs va))(h:DataW.trod (funcToken P) P w 0 (fun _=>true) true fuel e [v]=some (d,q))(hk:IB P d f=true):v=CW f:=by
 unfold IB at hk;split at hk
 ·cases fuel with
  |zero=>simp[DataW.trod] at h
  |succ n=>cases v<;>simp[DataW.trod,he] at h;rfl
 ·exact func_of_trod he (by simpa using hk) h
 ·cases hk
theorem RP{P:Program}:∀{ds:List<|DataW<|List UInt8} {fs:List<|Option FuncId},AH P ds fs=true->ds.length=fs.length/\∀(i:Nat) d f,ds[i]? =some d->fs[i]? =some f->IB P d f=true
 |[],[],_=>⟨rfl,fun i d f h=>by simp at h⟩
 |[],_::_,h=>by simp[AH] at h
 |_::_,[],h=>by simp[AH] at h
 |d::ds,f::fs,h=>by
  simp only[AH,Bool.and_eq_true] at h;obtain⟨h1,h2⟩:=RP h.2;refine⟨by simp[h1],fun i a b ha hb=>?_⟩;cases i with
  |zero=>simp at ha hb;subst ha;subst hb;exact h.1
  |succ i=>simp at ha hb;exact h2 i a b ha hb
theorem alo{W:World}{name:String}{d:DataW Unit}{g:Nat}{t:TypeId}{n:Nat}{fs:List<|Option FuncId}(h:funcsAt P W name d)(hg:P.globalNamed name=some g)(hty:(P.globals[g]?).map (·.type)=some t)(ht:P.underlying t=some (.array n e))(he:P.underlying e=some (.func ps rs va))(hc:P.cellsOf e=1)(hct:P.cellsOf t=n)(hd:agb P d.funcsOut fs=true):
 ∃c ty fr,W.heap[g]? =some (.cells c ty fr)/\fs.length=c.size/\∀(i:Nat) f,fs[i]? =some f->c[i]? =some (CW f):=by
 obtain⟨g',t',cs,fuel,p,h1,h2,h3,h4⟩:=h;obtain rfl:g=g':=Option.some.inj<|hg.symm.trans h1;obtain rfl:t=t':=Option.some.inj<|hty.symm.trans h2;have mF:∃ty fr,W.heap[g]? =some (.cells cs ty fr):=by
  unfold World.var? at h3;rw[hg] at h3;simp only[Option.bind_some] at h3;split at h3
  ·rename_i c ty fr e;injection h3 with h3;subst h3;exact⟨ty,fr,e⟩
  ·cases h3
 obtain⟨ty,fr,mF⟩:=mF;cases fuel with
 |zero=>simp[DataW.trod] at h4
 |succ m=>
  rw[DataW.trod_step] at h4;unfold DataW.trodStep at h4;simp only[ht,hc,Nat.mul_one] at h4;split at h4
  ·rename_i hlen;rw[Option.map_eq_some_iff] at h4;obtain⟨xs,h5,h6⟩:=h4;obtain⟨h7,h8⟩:=TE h5;have ahT:d.funcsOut= .agg (xs.map (·.1)):=by injection h6 with h6 _;exact h6.symm
   rw[ahT] at hd;obtain⟨h9,gE⟩:=RP (show AH P (xs.map (·.1)) fs=true from hd);have hxl:xs.length=fs.length:=by simpa using h9
   have get:∀(i:Nat) f,fs[i]? =some f->cs[i]? =some (CW f):=by
    intro i f hf;have hi:i<fs.length:=(List.getElem?_eq_some_iff.1 hf).1;obtain⟨y,ug,qF⟩:=h8 i i (by rw[List.getElem?_range (by simp at h7;omega)]);obtain⟨v,hv⟩:∃v,(cs.toList.drop i).take 1=[v]:=by
     cases hq:(cs.toList.drop i).take 1 with
     |nil=>
      rw[hq] at qF;cases m with
      |zero=>simp[DataW.trod] at qF
      |succ k=>simp[DataW.trod,he] at qF
     |cons v l=>
      have:((cs.toList.drop i).take 1).length<=1:=List.length_take_le _ _;rw[hq] at this;cases l with
      |nil=>exact⟨v,rfl⟩
      |cons=>simp at this
    rw[hv] at qF;have Gg:=YZ (f:=f) (d:=y.1) (q:=y.2) he qF<|gE i y.1 f (by rw[List.getElem?_map,ug];rfl) hf;have:(cs.toList.drop i)[0]? =some v:=by
     have:((cs.toList.drop i).take 1)[0]? =some v:=by rw[hv];rfl
     rw[List.getElem?_take_of_lt aj] at this;exact this
    rw[List.getElem?_drop,Nat.add_zero,Array.getElem?_toList] at this;rw[this,Gg]
   refine⟨cs,ty,fr,mF,?_,get⟩;have VZ:=hlen;rw[hct] at VZ;simp at VZ h7;omega
  ·cases h4
theorem abO(l:List AV)(hl:l.length<=top)(i:Nat)(hi:i<l.length):(Tr.fill l 0 .nil).get i=l[i]? :=by rw[Tr.sq _ _ _ _ aj,if_pos aj];simp
end Go.Rn
namespace Go.Rn
open Go.RowKit
noncomputable section
end
end Go.Rn
namespace Go.Rn
open Go.RowKit
noncomputable section
end
section
variable {P:Program} {B:aJ} {J:Nat} {s s1:AS} {YG:aK} {t:Tr AV} {ops:Array Oper} {f nt i:Nat} {K:List Item} {G:AF->AS->Prop} {acc:List Met} {rs:List ResultVar} {v v':AV}
end
section
variable {P:Program} {s s1:AS} {YG:aK} {t:Tr AV}
end
noncomputable section
end
section
variable {P:Program} {F:Nat->Option (List AV)} {sp:Sp} {g n k:Nat} {ad:Option<|Nat×Nat} {cp:bW} {s:AS} {l:List AV} {a b c d:ByteArray} {n1 n2 n3 n4:Nat}
end
end Go.Rn
namespace Go.Rn
open Go.RowKit
noncomputable section
end
end Go.Rn
namespace Go.Rn
end Go.Rn
namespace Go.Rn
open Go.RowKit
variable {n:Nat} {α:Type} {y x:Operand} {ty e:TypeId} {ts:Array TypeId} {l:List α} {i:TypeInfo} {enc:α->List AV}
section
variable {P:Program} {s:AS} {YG:aK} {t:Tr AV}
theorem Cl{off k:Nat}{l:List AV}(h1:Nat.blt n s.nx=true)(h2:s.h.get n=some (.cells l.length (Tr.fill l 0 .nil) []))(hl:l.length<=top)(Xx:0<k)(hk:off+k<=l.length):iY n off k s= .ok ((l.drop off).take k) (aU n s):=by
 cases k with
 |zero=>omega
 |succ k=>
  show((bt n).bind fun o=>match o with
   | .cells m t z=>aG (Nat.ble (off+(k+1)) m) <| lift (lO t z (k+1) off)
   | .ro m t=>aG (Nat.ble (off+(k+1)) m) <| lift (lO t [] (k+1) off)
   |_=>fail) s=_
  rw[M.bK<|lN h1 h2];show aG (Nat.ble (off+(k+1)) l.length) (lift<|lO (Tr.fill l 0 .nil) [] (k+1) off) (aU n s)=_;rw[aL.2 hk,dq,LP hl _ _ hk];rfl
theorem aeM{L:List α}{len:Nat}{cap:bW}{n0 o0 k0:Nat}(hx:aH t x=some (.slice (some (n,0)) len cap))(hlen:len=l.length)(hy:aH t y=some (.U n0 o0 k0))(h0:ts[0]? =some ty)(hu:P.underlying ty=some (.slice e))(hi:P.info? e=some i)(hz:and (ss i) (po P ts[1]?)=true)(eN:OQ i.size len cap=true)(dK:top<=n0)(eR:∀s,YG (.row n0 o0<|k0*i.size) [] s= .ok (.agg (L.map enc).flatten) s)(hk:k0=L.length)(hn:s.h.get n=some (aC enc l))(cL:(Nat.blt n s.nx&&Nat.blt s.nx top)=true)(xS:∀x:α,(enc x).length=i.size/\(enc x).all AV.bR=true)(hb:Nat.beq i.bytes 0=false)(tu:2*(l.length+L.length)*i.bytes+4096*i.bytes<=room)(kr:(l.length+L.length)*i.size<=top):
 ∃rd wr,(∀k∈rd,k=n\/k∈s.rd)/\(∀k∈wr,k=n\/k∈s.wr)/\(s.mark=0->rd=s.rd/\wr=s.wr)/\(du P<|.call ⟨.builtin .append, #[x,y],ts⟩).val YG t s= .ok (.slice (some (s.nx,0)) (l++L).length<|.aq (l++L).length i.size) ⟨(s.h.put n none).put s.nx<|some<|aC enc<|l++L,s.nx+1,s.mark,rd,wr⟩:=by
 subst hlen;subst hk;obtain⟨fu,BW⟩:=and_true.1 cL;have ahU:=(blt_eq _ _).mp fu;have Br:=(blt_eq _ _).mp BW;have oC:∀l:List α,(l.map enc).flatten.length=l.length*i.size:=fun l=>by
  have:=uE (K:=i.size) (l:=l.map enc) fun c hc=>by obtain⟨a,_,rfl⟩:=List.mem_map.1 hc;exact(xS a).1
  rw[this,List.length_map]
 have vC:∀l:List α,(l.map enc).flatten.all AV.bR=true:=by
  intro l;induction l with
  |nil=>rfl
  |cons x l ih=>simp only[List.map_cons,List.flatten_cons,List.all_append,ih,(xS x).2,Bool.and_true]
 have bZ:(l.map enc).flatten.length<=top:=by rw[oC];have:=Nat.mul_le_mul_right i.size (show l.length<=l.length+L.length by omega);omega
 have O2:∃rd,(∀k∈rd,k=n\/k∈s.rd)/\(s.mark=0->rd=s.rd)/\iY n 0 (l.length*i.size) s= .ok (l.map enc).flatten ⟨s.h,s.nx,s.mark,rd,s.wr⟩:=by
  cases hk:l.length*i.size with
  |zero=>have:(l.map enc).flatten=[]:=List.eq_nil_of_length_eq_zero (by rw[oC,hk]);rw[this];exact⟨s.rd,fun k h=>.inr h,fun _=>rfl,rfl⟩
  |succ k=>
   have hr:=Cl (n:=n) (off:=0) (k:=k+1) (l:=(l.map enc).flatten) (s:=s) fu hn bZ (Nat.succ_pos _) (by rw[oC,hk];omega);rw[List.drop_zero, ←hk, ←oC,List.take_length] at hr;rw[←hk, ←oC];refine⟨(aU n s).rd,?_,fun hm=>?_,?_⟩
   ·intro k h;unfold aU at h;cases q:Nat.blt n s.mark with
    |false=>rw[q] at h;exact .inr h
    |true=>rw[q] at h;rcases List.mem_cons.1 h with h|h;exact .inl h;exact .inr h
   ·unfold aU;rw[hm,show Nat.blt n 0=false from by cases q:Nat.blt n 0 with|false=>rfl|true=>have:=(blt_eq _ _).mp q;omega]
   ·rw[hr];congr 1;unfold aU;cases Nat.blt n s.mark<;>rfl
 obtain⟨gp,a1,a2,a3⟩:=O2;have pI:∃rd wr,(∀k∈rd,k=n\/k∈s.rd)/\(∀k∈wr,k=n\/k∈s.wr)/\(s.mark=0->rd=s.rd/\wr=s.wr)/\
  ((bt n).bind fun ob=>aG ob.yF <| (bJ n none).bind fun _=>grown i.size i.bytes (l.length+L.length) (l.map enc).flatten (L.map enc).flatten) ⟨s.h,s.nx,s.mark,gp,s.wr⟩= .ok (.slice (some (s.nx,0)) (l.length+L.length)<|.aq (l.length+L.length) i.size) ⟨(s.h.put n none).put s.nx<|some<|aC enc<|l++L,s.nx+1,s.mark,rd,wr⟩:=by
  rw[M.bK<|lN (s:=⟨s.h,s.nx,s.mark,gp,s.wr⟩) fu hn];rw[show(aC enc l).yF=true from rfl,dq];obtain⟨b1,b2,b3⟩:=fL n ⟨s.h,s.nx,s.mark,gp,s.wr⟩;rw[M.bK<|wT (o:=none) (p:=aC enc l) (s:=aU n ⟨s.h,s.nx,s.mark,gp,s.wr⟩) (by rw[b2];exact fu) (by rw[b1];exact hn) rfl (by rw[blt_eq];omega)];have PA:(l.map enc).flatten++(L.map enc).flatten=((l++L).map enc).flatten:=by rw[List.map_append,List.flatten_append]
  unfold grown;rw[show(and (Nat.ble (2*(l.length+L.length)*i.bytes+4096*i.bytes) room)<|not<|Nat.beq i.bytes 0)=true from and_true.2 ⟨aL.2 tu,by rw[hb];rfl⟩,dq,PA];have hw:∃rd wr,(∀k∈rd,k=n\/k∈s.rd)/\(∀k∈wr,k=n\/k∈s.wr)/\(s.mark=0->rd=s.rd/\wr=s.wr)/\fl n none (aU n ⟨s.h,s.nx,s.mark,gp,s.wr⟩)=⟨s.h.put n none,s.nx,s.mark,rd,wr⟩:=by
   unfold fl aU;cases q:Nat.blt n s.mark with
   |false=>refine⟨gp,s.wr,a1,fun k h=>.inr h,fun hm=>⟨a2 hm,rfl⟩,?_⟩;show(@Bool.rec (fun _=>AS) _ _<|Nat.blt n s.mark)=_;rw[q]
   |true=>
    refine⟨n::n::gp,n::s.wr,?_,?_,fun hm=>?_,?_⟩
    ·intro k h;rcases List.mem_cons.1 h with h|h
     ·exact .inl h
     ·rcases List.mem_cons.1 h with h|h
      ·exact .inl h
      ·exact a1 k h
    ·intro k h;rcases List.mem_cons.1 h with h|h
     ·exact .inl h
     ·exact .inr h
    ·rw[hm] at q;have:=(blt_eq _ _).mp q;omega
    ·show(@Bool.rec (fun _=>AS) _ _<|Nat.blt n s.mark)=_;rw[q]
  obtain⟨rd,wr,c1,c2,c3,c4⟩:=hw;rw[c4];refine⟨rd,wr,c1,c2,c3,?_⟩;have vE:=HQ (s:=⟨s.h.put n none,s.nx,s.mark,rd,wr⟩) (l:=((l++L).map enc).flatten) (by rw[oC];simpa using kr) (vC _) Br;exact(M.bK vE).trans rfl
 obtain⟨rd,wr,d1,d2,d3,d4⟩:=pI;refine⟨rd,wr,d1,d2,d3,?_⟩;show og P .append ts [x,y] YG t s=_;unfold og;have me:jS (aH t) [x,y]=some [.slice (some (n,0)) l.length cap,.U n0 o0 L.length]:=by simp only[jS,hx,hy]
 rw[me,bQ];show AA P YG ts (.slice (some (n,0)) l.length cap) n0 o0 L.length s=_;unfold AA;rw[aL.2 dK,dq,h0,bQ];simp only[hu];rw[hi,bQ,hz,dq,eN,dq];have hr:su YG n0 o0 (L.length*i.size) s= .ok (L.map enc).flatten s:=by
  rcases Nat.eq_zero_or_pos (L.length*i.size) with Qs|Qs
  ·rw[List.eq_nil_of_length_eq_zero<|(oC L).trans Qs,Qs];rfl
  rw[show su YG n0 o0 (L.length*i.size)=(YG (.row n0 o0<|L.length*i.size) []).bind fun x=>match x with
   | .agg l=>aG (Nat.beq l.length<|L.length*i.size) <| M.pure l
   |_=>fail from by obtain⟨m,hm⟩:∃m,L.length*i.size=m+1:=⟨L.length*i.size - 1,by omega⟩;rw[hm];rfl]
  rw[M.bK<|eR s];show aG (Nat.beq (L.map enc).flatten.length<|L.length*i.size) (M.pure (L.map enc).flatten) s=_;rw[oC,ey.2 rfl,dq];rfl
 rw[M.bK hr,M.bK a3,d4];simp
theorem aeN{c:α}{m:Nat}(hx:aH t x=some (.slice (some (n,0)) l.length<|.aq l.length i.size))(hy:aH t y=some (.slice (some (m,0)) 1<|.known 1))(h0:ts[0]? =some ty)(hu:P.underlying ty=some (.slice e))(hi:P.info? e=some i)(hz:and (ss i) (po P ts[1]?)=true)(hn:s.h.get n=some (aC enc l))(hm:s.h.get m=some (.cells (enc c).length (Tr.fill (enc c) 0 .nil) []))(cL:(Nat.blt n s.nx&&(Nat.blt m s.nx&&Nat.blt s.nx top))=true)(xS:∀x:α,(enc x).length=i.size/\(enc x).all AV.bR=true)(DF:0<i.size)(hb:Nat.beq i.bytes 0=false)(tu:2*(l.length+1)*i.bytes+4096*i.bytes<=room)(kr:(l.length+1)*i.size<=top):
 ∃rd wr,(∀k∈rd,k=n\/k=m\/k∈s.rd)/\(∀k∈wr,k=n\/k∈s.wr)/\(s.mark=0->rd=s.rd/\wr=s.wr)/\(du P<|.call ⟨.builtin .append, #[x,y],ts⟩).val YG t s= .ok (.slice (some (s.nx,0)) (l++[c]).length<|.aq (l++[c]).length i.size) ⟨(s.h.put n none).put s.nx<|some<|aC enc<|l++[c],s.nx+1,s.mark,rd,wr⟩:=by
 obtain⟨fu,cL⟩:=and_true.1 cL;obtain⟨eY,BW⟩:=and_true.1 cL;have ahU:=(blt_eq _ _).mp fu;have Br:=(blt_eq _ _).mp BW;have oC:∀l:List α,(l.map enc).flatten.length=l.length*i.size:=fun l=>by
  have:=uE (K:=i.size) (l:=l.map enc) fun c hc=>by obtain⟨a,_,rfl⟩:=List.mem_map.1 hc;exact(xS a).1
  rw[this,List.length_map]
 have vC:∀l:List α,(l.map enc).flatten.all AV.bR=true:=by
  intro l;induction l with
  |nil=>rfl
  |cons x l ih=>simp only[List.map_cons,List.flatten_cons,List.all_append,ih,(xS x).2,Bool.and_true]
 have Wy:(l.length+1)*i.size=l.length*i.size+i.size:=by rw[Nat.add_mul,Nat.one_mul]
 have bZ:(l.map enc).flatten.length<=top:=by rw[oC];omega
 have qv:∀{k q:Nat} {s':AS},k∈(aU q s').rd->k=q\/k∈s'.rd:=by
  intro k q s' h;unfold aU at h;cases z:Nat.blt q s'.mark with
  |false=>rw[z] at h;exact .inr h
  |true=>rw[z] at h;rcases List.mem_cons.1 h with h|h;exact .inl h;exact .inr h
 have ko:∀(q:Nat) (s':AS),s'.mark=0->aU q s'=s':=by intro q s' h;unfold aU;rw[h,show Nat.blt q 0=false from by cases z:Nat.blt q 0 with|false=>rfl|true=>have:=(blt_eq _ _).mp z;omega]
 have V4:∀(q:Nat) (s':AS),aU q s'=⟨s'.h,s'.nx,s'.mark,(aU q s').rd,s'.wr⟩:=by intro q s';unfold aU;cases Nat.blt q s'.mark<;>rfl
 have hf:firstCells i.size 1 (.slice (some (m,0)) 1<|.known 1) s= .ok (enc c) (aU m s):=by rw[Lr jF,Nat.one_mul];have hr:=Cl (n:=m) (off:=0) (k:=i.size) (l:=enc c) (s:=s) eY hm (by rw[(xS c).1];omega) DF (by rw[(xS c).1];omega);rw[hr,List.drop_zero, ←(xS c).1,List.take_length]
 let s1:AS:=⟨s.h,s.nx,s.mark,(aU m s).rd,s.wr⟩;have jJ:aU m s=s1:=V4 m s;have O2:∃rd,(∀k∈rd,k=n\/k∈s1.rd)/\(s.mark=0->rd=s1.rd)/\iY n 0 (l.length*i.size) s1= .ok (l.map enc).flatten ⟨s.h,s.nx,s.mark,rd,s.wr⟩:=by
  cases hk:l.length*i.size with
  |zero=>have:(l.map enc).flatten=[]:=List.eq_nil_of_length_eq_zero (by rw[oC,hk]);rw[this];exact⟨s1.rd,fun k h=>.inr h,fun _=>rfl,rfl⟩
  |succ k=>have hr:=Cl (n:=n) (off:=0) (k:=k+1) (l:=(l.map enc).flatten) (s:=s1) fu hn bZ (Nat.succ_pos _) (by rw[oC,hk];omega);rw[List.drop_zero, ←hk, ←oC,List.take_length] at hr;rw[←hk, ←oC];exact⟨(aU n s1).rd,fun k h=>qv h,fun zH=>by rw[ko n s1 zH],hr.trans<|congrArg _<|V4 n s1⟩
 obtain⟨gp,a1,a2,a3⟩:=O2;have pI:∃rd wr,(∀k∈rd,k=n\/k∈s1.rd)/\(∀k∈wr,k=n\/k∈s.wr)/\(s.mark=0->rd=s1.rd/\wr=s.wr)/\
  ((bt n).bind fun ob=>aG ob.yF <| (bJ n none).bind fun _=>grown i.size i.bytes (l.length+1) (l.map enc).flatten<|enc c) ⟨s.h,s.nx,s.mark,gp,s.wr⟩= .ok (.slice (some (s.nx,0)) (l.length+1)<|.aq (l.length+1) i.size) ⟨(s.h.put n none).put s.nx<|some<|aC enc<|l++[c],s.nx+1,s.mark,rd,wr⟩:=by
  rw[M.bK<|lN (s:=⟨s.h,s.nx,s.mark,gp,s.wr⟩) fu hn];rw[show(aC enc l).yF=true from rfl,dq];obtain⟨b1,b2,b3⟩:=fL n ⟨s.h,s.nx,s.mark,gp,s.wr⟩;rw[M.bK<|wT (o:=none) (p:=aC enc l) (s:=aU n ⟨s.h,s.nx,s.mark,gp,s.wr⟩) (by rw[b2];exact fu) (by rw[b1];exact hn) rfl (by rw[blt_eq];omega)];have PA:(l.map enc).flatten++enc c=((l++[c]).map enc).flatten:=by simp
  unfold grown;rw[show(and (Nat.ble (2*(l.length+1)*i.bytes+4096*i.bytes) room)<|not<|Nat.beq i.bytes 0)=true from and_true.2 ⟨aL.2 tu,by rw[hb];rfl⟩,dq,PA];have hw:∃rd wr,(∀k∈rd,k=n\/k∈s1.rd)/\(∀k∈wr,k=n\/k∈s.wr)/\(s.mark=0->rd=s1.rd/\wr=s.wr)/\fl n none (aU n ⟨s.h,s.nx,s.mark,gp,s.wr⟩)=⟨s.h.put n none,s.nx,s.mark,rd,wr⟩:=by
   unfold fl aU;cases q:Nat.blt n s.mark with
   |false=>refine⟨gp,s.wr,a1,fun k h=>.inr h,fun hm=>⟨a2 hm,rfl⟩,?_⟩;show(@Bool.rec (fun _=>AS) _ _<|Nat.blt n s.mark)=_;rw[q]
   |true=>
    refine⟨n::n::gp,n::s.wr,?_,?_,fun hm=>?_,?_⟩
    ·intro k h;rcases List.mem_cons.1 h with h|h
     ·exact .inl h
     ·rcases List.mem_cons.1 h with h|h
      ·exact .inl h
      ·exact a1 k h
    ·intro k h;rcases List.mem_cons.1 h with h|h
     ·exact .inl h
     ·exact .inr h
    ·rw[hm] at q;have:=(blt_eq _ _).mp q;omega
    ·show(@Bool.rec (fun _=>AS) _ _<|Nat.blt n s.mark)=_;rw[q]
  obtain⟨rd,wr,c1,c2,c3,c4⟩:=hw;rw[c4];refine⟨rd,wr,c1,c2,c3,?_⟩;have vE:=HQ (s:=⟨s.h.put n none,s.nx,s.mark,rd,wr⟩) (l:=((l++[c]).map enc).flatten) (by rw[oC];simpa using kr) (vC _) Br;exact(M.bK vE).trans rfl
 obtain⟨rd,wr,d1,d2,d3,d4⟩:=pI;refine⟨rd,wr,fun k h=>?_,d2,fun h=>⟨(d3 h).1.trans (by show(aU m s).rd=s.rd;rw[ko m s h]),(d3 h).2⟩,?_⟩
 ·rcases d1 k h with h|h
  ·exact .inl h
  ·exact .inr<|qv h
 show og P .append ts [x,y] YG t s=_;unfold og;have me:jS (aH t) [x,y]=some [.slice (some (n,0)) l.length<|.aq l.length i.size,.slice (some (m,0)) 1<|.known 1]:=by simp only[jS,hx,hy]
 rw[me,bQ];show pn P ts (.slice (some (n,0)) l.length<|.aq l.length i.size) (.slice (some (m,0)) 1<|.known 1) s=_;unfold pn;rw[h0,bQ];simp only[hu];rw[hi,bQ,hz,dq];show((firstCells i.size 1<|.slice (some (m,0)) 1<|.known 1).bind fun new=>aG (Nat.beq new.length<|1*i.size) <| qR i.size i.bytes (some (n,0)) l.length (.aq l.length i.size) 1 new) s=_;rw[M.bK hf,(xS c).1,Nat.one_mul,ey.2 rfl,dq,jJ];show(aG (Nat.beq i.size i.size) <| match Nat.ble (l.length+1) l.length with
  |true=>match (some (n,0):Option<|Nat×Nat) with
   |some (m,o)=>(wD m (o+l.length*i.size)<|enc c).bind fun _=>M.pure (.slice (some (m,o)) (l.length+1)<|.aq l.length i.size)
   |none=>fail
  |false=>match (some (n,0):Option<|Nat×Nat) with
   |some (m,0)=>(iY m 0<|l.length*i.size).bind fun dy=>(bt m).bind fun o=>aG o.yF <| (bJ m none).bind fun _=>grown i.size i.bytes (l.length+1) dy (enc c)
   |_=>fail) s1=_
 have Gj:Nat.ble (l.length+1) l.length=false:=by
  cases q:Nat.ble (l.length+1) l.length with
  |false=>rfl
  |true=>have:=aL.1 q;omega
 rw[ey.2 rfl,dq];simp only[Gj];rw[M.bK a3,d4];simp
end
end Go.Rn
namespace Go.Rn
open Go.RowKit
variable {x i:Operand} {ty kt et:TypeId} {n:Nat} {k:Int}
section
variable {P:Program} {s s1:AS} {YG:aK} {t:Tr AV}
noncomputable def bz(m:List<|Int×Int):ae:=.lq<|cn m
def lB:List (Int×Int)->Int->Bool
 |[],_=>false
 |p::l,k=>if p.1=k then true else lB l k
theorem TF(k:Int):∀(m:List<|Int×Int) (i:Nat),(lB m k=false/\kI (.int .i64 k) (cn m) i=some none)\/∃j,lB m k=true/\kI (.int .i64 k) (cn m) i=some (some (j,.int .i64<|getM m k))
 |[],i=>.inl ⟨rfl,rfl⟩
 |p::l,i=>by
  have hf:kI (.int .i64 k) (cn<|p::l) i=(match some (k == p.1) with|none=>none|some true=>some (some (i,.int .i64 p.2))|some false=>kI (.int .i64 k) (cn l)<|i+1):=rfl;by_cases e:p.1=k
  ·refine .inr ⟨i,by unfold lB;rw[if_pos e],?_⟩;rw[hf,show(k == p.1)=true by simp[e],show getM (p::l) k=p.2 by simp[getM,e]]
  ·have cf:(k == p.1)=false:=by simp;exact fun q=>e q.symm
   rw[hf,cf,show lB (p::l) k=lB l k by simp[lB,e],show getM (p::l) k=getM l k by simp[getM,e]];exact TF k l<|i+1
theorem aeO{m:List<|Int×Int}(hx:aH t x=some (.map<|some n))(hi:aH t i=some (.int .i64 k))(hu:P.underlying ty=some (.map kt et))(hk:ox P 10000 kt (.int .i64 k)=true)(hp:plainKey P kt (.int .i64 k)=true)(hz:nB P et=some (.int .i64 0))(hn:s.h.get n=some (bz m))(cL:Nat.blt n s.nx=true):(du P<|.lookup ty x i true).val YG t s= .ok (.tuple [.int .i64 (if lB m k=true then getM m k else 0),.bool<|lB m k]) (aU n s):=by
 show wR P ty x i true YG t s=_;unfold wR;rw[hx,hi,bQ,bQ];unfold yH;simp only[hu];have hf:yN P kt (.int .i64 k) (.map<|some n) s= .ok (cn m) (aU n s):=by
  show((bt n).bind fun o=>match o with
   | .map es _=>M.pure es
   | .lq es=>aG (or (plainKey P kt<|.int .i64 k)<|short es) <| M.pure es
   |_=>fail) s=_
  rw[M.bK<|lN cL hn];show(aG (or (plainKey P kt<|.int .i64 k)<|short<|cn m) <| M.pure<|cn m) (aU n s)=_;rw[hp,show(or true<|short<|cn m)=true from rfl,dq];rfl
 rw[M.bK hf,hk,dq];have Qt:findKey P kt (.int .i64 k) (cn m)=kI (.int .i64 k) (cn m) 0:=by unfold findKey;simp only[tZ,hp]
 rw[Qt];rcases TF k m 0 with⟨h1,h2⟩|⟨j,h1,h2⟩
 ·rw[h2,bQ,h1];show(aB (nB P et) fun z=>M.pure<|zF true z false) (aU n s)=_;rw[hz,bQ];rfl
 ·rw[h2,bQ,h1];rfl
theorem aeP{y:Operand}{v:Int}{m:List<|Int×Int}(hx:aH t x=some (.map<|some n))(hi:aH t i=some (.int .i64 k))(hy:aH t y=some (.int .i64 v))(hu:P.underlying ty=some (.map kt et))(hk:ox P 10000 kt (.int .i64 k)=true)(hp:plainKey P kt (.int .i64 k)=true)(hn:s.h.get n=some (bz m))(q1:Nat.blt n s.nx=true)(q2:Nat.blt n top=true):(du P<|.mapUpdate ty x i y).val YG t s= .ok (.tuple []) (fl n (some<|bz<|fM m k v)<|aU n s):=by
 show p8 P ty x i y YG t s=_;unfold p8;rw[hx,hi,hy,bQ,bQ,bQ];have w:∀o:ae,bJ n (some o) (aU n s)= .ok () (fl n (some o)<|aU n s):=fun o=>wT (by rw[(fL n s).2.1];exact q1) (by rw[(fL n s).1];exact hn) rfl q2;have ahV:xd P ty (.map<|some n) (.int .i64 k) (.int .i64 v) s= .ok () (fl n (some<|bz<|fM m k v)<|aU n s):=by
  unfold xd;simp only[hu];rw[M.bK<|lN q1 hn];show(aG (and (plainKey P kt<|.int .i64 k)<|ox P 10000 kt<|.int .i64 k) <| aB (findKey P kt (.int .i64 k)<|cn m) fun f=>An n (.int .i64 k) (.int .i64 v) (cn m) f) (aU n s)=_;rw[hk,hp,show(and true true)=true from rfl,dq];have Qt:findKey P kt (.int .i64 k) (cn m)=kI (.int .i64 k) (cn m) 0:=by unfold findKey;simp only[tZ,hp]
  rw[Qt];rcases Tz k m 0 with⟨h1,_,h3⟩|⟨j,z,h1,_,h3,h4⟩
  ·rw[h1,bQ];show bJ n (some<|.lq<|cn m++[(.int .i64 k,.int .i64 v)]) (aU n s)=_;rw[w,h3 v];simp only[bz,cn,List.map_append,List.map_cons,List.map_nil]
  ·rw[h1,bQ];show bJ n (some<|.lq<|putAt (cn m) (0+j) (.int .i64 k)<|.int .i64 v) (aU n s)=_;rw[Nat.zero_add,w,(h4 v).1];rfl
 rw[M.bK ahV];rfl
end
end Go.Rn
namespace Go.Rn
open Go.RowKit
variable {n k:Nat} {l L2 L1:List AV} {y x:Operand} {ty e:TypeId} {ts:Array TypeId} {i:TypeInfo} {rB:bW}
section
variable {P:Program} {s:AS} {YG:aK} {t:Tr AV}
theorem SU{s:AS}(h1:Nat.blt n s.nx=true)(h2:s.h.get n=some (.cells l.length (Tr.fill l 0 .nil) []))(hl:l.length<=top)(hk:k<=l.length):
 ∃rd,(∀x∈rd,x=n\/x∈s.rd)/\(s.mark=0->rd=s.rd)/\iY n 0 k s= .ok (l.take k) ⟨s.h,s.nx,s.mark,rd,s.wr⟩:=by
 cases k with
 |zero=>exact⟨s.rd,fun x h=>.inr h,fun _=>rfl,rfl⟩
 |succ k=>
  have hr:=Cl (n:=n) (off:=0) (k:=k+1) (l:=l) (s:=s) h1 h2 hl (Nat.succ_pos _) aj;rw[List.drop_zero] at hr;refine⟨(aU n s).rd,?_,fun hm=>?_,?_⟩
  ·intro k h;unfold aU at h;cases q:Nat.blt n s.mark with
   |false=>rw[q] at h;exact .inr h
   |true=>rw[q] at h;rcases List.mem_cons.1 h with h|h;exact .inl h;exact .inr h
  ·unfold aU;rw[hm,show Nat.blt n 0=false from by cases q:Nat.blt n 0 with|false=>rfl|true=>have:=(blt_eq _ _).mp q;omega]
  ·rw[hr];congr 1;unfold aU;cases Nat.blt n s.mark<;>rfl
theorem aeQ{m len:Nat}(hx:aH t x=some (.slice (some (n,0)) len<|.known len))(hy:aH t y=some (.slice (some (m,0)) k rB))(h0:ts[0]? =some ty)(hu:P.underlying ty=some (.slice e))(hi:P.info? e=some i)(hz:and (ss i) (po P ts[1]?)=true)(hk:1<=k)(hn:s.h.get n=some (.cells L1.length (Tr.fill L1 0 .nil) []))(hm:s.h.get m=some (.cells L2.length (Tr.fill L2 0 .nil) []))(Kx:L1.length<=top)(yc:L2.length<=top)(h1:len*i.size<=L1.length)(h2:k*i.size<=L2.length)(he:L1.take (len*i.size)++L2.take (k*i.size)=l)(cL:(Nat.blt n s.nx&&(Nat.blt m s.nx&&Nat.blt s.nx top))=true)(vC:l.all AV.bR=true)(hb:Nat.beq i.bytes 0=false)(tu:2*(len+k)*i.bytes+4096*i.bytes<=room)(kr:l.length<=top):
 ∃rd wr,(∀q∈rd,q=n\/q=m\/q∈s.rd)/\(∀q∈wr,q∈s.wr)/\(s.mark=0->rd=s.rd/\wr=s.wr)/\(du P<|.call ⟨.builtin .append, #[x,y],ts⟩).val YG t s= .ok (.slice (some (s.nx,0)) (len+k)<|.aq (len+k) i.size) ⟨s.h.put s.nx<|some<|.cells l.length (Tr.fill l 0 .nil) [],s.nx+1,s.mark,rd,wr⟩:=by
 obtain⟨fu,cL⟩:=and_true.1 cL;obtain⟨eY,BW⟩:=and_true.1 cL;have Br:=(blt_eq _ _).mp BW;have hf:firstCells i.size k (.slice (some (m,0)) k rB) s=iY m 0 (k*i.size) s:=by
  cases k with
  |zero=>omega
  |succ k=>cases rB<;>rfl
 obtain⟨gp,a1,a2,a3⟩:=SU eY hm yc h2;obtain⟨BN,b1,b2,b3⟩:=SU (s:=⟨s.h,s.nx,s.mark,gp,s.wr⟩) fu hn Kx h1;refine⟨BN,s.wr,fun q hq=>?_,fun q hq=>hq,fun zH=>⟨(b2 zH).trans<|a2 zH,rfl⟩,?_⟩
 ·rcases b1 q hq with h|h
  ·exact .inl h
  ·exact .inr<|a1 q h
 show og P .append ts [x,y] YG t s=_;unfold og;have me:jS (aH t) [x,y]=some [.slice (some (n,0)) len<|.known len,.slice (some (m,0)) k rB]:=by simp only[jS,hx,hy]
 rw[me,bQ];show pn P ts (.slice (some (n,0)) len<|.known len) (.slice (some (m,0)) k rB) s=_;unfold pn;rw[h0,bQ];simp only[hu];rw[hi,bQ,hz,dq];show(aB (some k) fun BX=>(firstCells i.size BX<|.slice (some (m,0)) k rB).bind fun new=>aG (Nat.beq new.length<|BX*i.size) <| qR i.size i.bytes (some (n,0)) len (.known len) BX new) s=_;rw[bQ,M.bK<|hf.trans a3];have O3:(L2.take<|k*i.size).length=k*i.size:=by rw[List.length_take];omega
 rw[O3,ey.2 rfl,dq];unfold qR;have Gj:Nat.ble (len+k) len=false:=by cases q:Nat.ble (len+k) len with|false=>rfl|true=>have:=aL.1 q;omega
 simp only[Gj];have Qu:firstCells i.size len (.slice (some (n,0)) len<|.known len) ⟨s.h,s.nx,s.mark,gp,s.wr⟩=iY n 0 (len*i.size) ⟨s.h,s.nx,s.mark,gp,s.wr⟩:=by cases len<;>rfl
 rw[M.bK<|Qu.trans b3];unfold grown;rw[show(and (Nat.ble (2*(len+k)*i.bytes+4096*i.bytes) room)<|not<|Nat.beq i.bytes 0)=true from and_true.2 ⟨aL.2 tu,by rw[hb];rfl⟩,dq,he];have vE:=HQ (s:=⟨s.h,s.nx,s.mark,BN,s.wr⟩) (l:=l) kr vC Br;exact(M.bK vE).trans rfl
noncomputable def PB(o:ae)(s:AS):AS:=⟨s.h.put s.nx<|some o,s.nx+1,s.mark,s.rd,s.wr⟩
theorem aeR{m len:Nat}(hx:aH t x=some (.slice (some (n,0)) len<|.known len))(hy:aH t y=some (.slice (some (m,0)) k rB))(h0:ts[0]? =some ty)(hu:P.underlying ty=some (.slice e))(hi:P.info? e=some i)(hz:and (ss i) (po P ts[1]?)=true)(hlen:1<=len)(hk:1<=k)(hs:1<=i.size)(hn:s.h.get n=some (.cells L1.length (Tr.fill L1 0 .nil) []))(hm:s.h.get m=some (.cells L2.length (Tr.fill L2 0 .nil) []))(Kx:L1.length<=top)(yc:L2.length<=top)(h1:len*i.size<=L1.length)(h2:k*i.size<=L2.length)(he:L1.take (len*i.size)++L2.take (k*i.size)=l)(cL:(Nat.blt n s.nx&&(Nat.blt m s.nx&&Nat.blt s.nx top))=true)(vC:l.all AV.bR=true)(hb:Nat.beq i.bytes 0=false)(tu:2*(len+k)*i.bytes+4096*i.bytes<=room)(kr:l.length<=top):
 (du P<|.call ⟨.builtin .append, #[x,y],ts⟩).val YG t s= .ok (.slice (some (s.nx,0)) (len+k)<|.aq (len+k) i.size) (PB (.cells l.length (Tr.fill l 0 .nil) [])<|aU n<|aU m s):=by
 obtain⟨fu,cL⟩:=and_true.1 cL;obtain⟨eY,BW⟩:=and_true.1 cL;have Br:=(blt_eq _ _).mp BW;have hf:firstCells i.size k (.slice (some (m,0)) k rB) s=iY m 0 (k*i.size) s:=by
  cases k with
  |zero=>omega
  |succ k=>cases rB<;>rfl
 have p1:0<k*i.size:=Nat.mul_pos aj aj;have p2:0<len*i.size:=Nat.mul_pos aj aj;have a3:=Cl (n:=m) (off:=0) (k:=k*i.size) (l:=L2) (s:=s) eY hm yc p1 aj;have b3:=Cl (n:=n) (off:=0) (k:=len*i.size) (l:=L1) (s:=aU m s) (by rw[(fL m s).2.1];exact fu) (by rw[(fL m s).1];exact hn) Kx p2 aj;rw[List.drop_zero] at a3 b3;show og P .append ts [x,y] YG t s=_;unfold og;have me:jS (aH t) [x,y]=some [.slice (some (n,0)) len<|.known len,.slice (some (m,0)) k rB]:=by simp only[jS,hx,hy]
 rw[me,bQ];show pn P ts (.slice (some (n,0)) len<|.known len) (.slice (some (m,0)) k rB) s=_;unfold pn;rw[h0,bQ];simp only[hu];rw[hi,bQ,hz,dq];show(aB (some k) fun BX=>(firstCells i.size BX<|.slice (some (m,0)) k rB).bind fun new=>aG (Nat.beq new.length<|BX*i.size) <| qR i.size i.bytes (some (n,0)) len (.known len) BX new) s=_;rw[bQ,M.bK<|hf.trans a3];have O3:(L2.take<|k*i.size).length=k*i.size:=by rw[List.length_take];omega
 rw[O3,ey.2 rfl,dq];unfold qR;have Gj:Nat.ble (len+k) len=false:=by cases q:Nat.ble (len+k) len with|false=>rfl|true=>have:=aL.1 q;omega
 simp only[Gj];have Qu:firstCells i.size len (.slice (some (n,0)) len<|.known len) (aU m s)=iY n 0 (len*i.size) (aU m s):=by
  cases len with
  |zero=>omega
  |succ k=>rfl
 rw[M.bK<|Qu.trans b3];unfold grown;rw[show(and (Nat.ble (2*(len+k)*i.bytes+4096*i.bytes) room)<|not<|Nat.beq i.bytes 0)=true from and_true.2 ⟨aL.2 tu,by rw[hb];rfl⟩,dq,he];have cr:(aU n<|aU m s).nx=s.nx:=by rw[(fL n _).2.1,(fL m _).2.1]
 have vE:=HQ (s:=aU n<|aU m s) (l:=l) kr vC (by rw[cr];exact Br);rw[cr] at vE;refine(M.bK vE).trans ?_;unfold PB;rw[cr];rfl
end
end Go.Rn
