import Derived.Calls
import Derived.Orders
import Derived.Below
import Derived.Laws.CopyRow
import Derived.Laws.Cells
import Derived.Laws.Tables
import Derived.Laws.StructEq
import Derived.Laws.BytesString
import Derived.IntWalk
import Derived.MapKept
import Derived.AtR
set_option maxRecDepth 100000
set_option maxHeartbeats 8000000
set_option linter.unusedSimpArgs false
set_option linter.unusedVariables false
open Array renaming foldl_toList → Vk, getD_eq_getD_getElem? → Ua, getElem?_eq_getElem → Ur, getElem?_eq_none → VM, getElem?_eq_some_iff → UR, getElem?_modify → V5, getElem?_push → VI, getElem?_setIfInBounds_ne → Vh, getElem?_setIfInBounds_self_of_lt → Vg, length_toList → Uq, range → Vu, toList_append → Vx, toList_map → VJ, toList_modify → V8, toList_push → V9
open Bool renaming and_eq_true → TW, and_eq_true_iff → UI, false_eq_true → UK, not_false → Vy, true_and → VN
open Go.Region renaming before → T1
open Go.Result renaming andThen_ok → TH
open Go.Sem renaming run_bind → TF, run_pure → TK
open Int renaming toNat_natCast → Uy
open List renaming Perm.refl → UL, Perm.swap → Vz, all_cons → TS, all_eq_true → TG, append_assoc → Um, cons_append → Vf, eq_nil_of_length_eq_zero → UY, flatten_cons → T5, foldl_cons → Un, getElem?_append_left → Ux, getElem?_append_right → UJ, getElem?_drop → Ue, getElem?_eq_getElem → TE, getElem?_eq_none → Uf, getElem?_eq_some_iff → TZ, getElem?_map → Uc, getElem?_range → Vt, getElem?_take_of_lt → U4, getElem?_toArray → Vi, length_append → TM, length_cons → TL, length_take → T4, mapM_cons → V6, map_append → Vm, map_cons → T0, map_nil → U5, mem_append → TP, mem_append_right → TU, mem_cons → Ty, mem_cons_of_mem → TB, mem_cons_self → TA, mem_map → TI, mem_map_of_mem → UZ, mem_of_getElem? → TY, mem_singleton → TC, nodup_cons → UF, pairwise_iff_getElem → V7, range → Ui, range' → VO, range'_succ → Wa, replicate → Uw, take_succ_cons → Vs
open Nat renaming add_assoc → UU, add_mul → Uo, add_zero → Ul, beq → Tx, ble → Tw, ble_eq → VH, blt → Tv, eq_of_beq_eq_true → Ug, eq_zero_or_pos → Vl, le_add_right → Ve, le_refl → Tz, le_trans → TO, lt_irrefl → US, lt_of_lt_of_le → TJ, lt_or_ge → UX, lt_succ_self → UT, min_eq_left → Vj, mod_lt → Vv, mul_assoc → VG, mul_comm → UQ, mul_le_mul_right → UW, pow_succ → U3, sub_zero → Uk, succ_mul → VK, zero_add → T6, zero_le → TN, zero_mul → UE
open Option renaming getD_some → VA, map_some → Uj, some.injEq → Ud
noncomputable section
namespace Go.Rn
open Go.RowKit
section
variable {α:Type} {P:Prop}
section
inductive Tr (α:Type) where
 |nil:Tr α
 |node (l:Tr α) (v:Option α) (r:Tr α):Tr α
def Tr.wW(p:List Bool):Tr α->Option α:= @List.rec Bool (fun _=>Tr α->Option α) (fun t=> @Tr.rec α (fun _=>Option α) none (fun _ v _ _ _=>v) t) (fun b _ ih t=> @Tr.rec α (fun _=>Option α) none (fun l _ r _ _=>ih<|@Bool.rec (fun _=>Tr α) r l b) t) p
def Tr.mQ(v:Option α)(p:List Bool):Tr α->Tr α:=
 @List.rec Bool (fun _=>Tr α->Tr α) (fun t=> @Tr.rec α (fun _=>Tr α) (.node .nil v .nil) (fun l _ r _ _=>.node l v r) t)
  (fun b _ ih t=> @Tr.rec α (fun _=>Tr α)
   (@Bool.rec (fun _=>Tr α) (.node .nil none<|ih .nil) (.node (ih .nil) none .nil) b)
   (fun l x r _ _=> @Bool.rec (fun _=>Tr α) (.node l x<|ih r) (.node (ih l) x r) b) t) p
theorem Tr.JF(p:List Bool):(Tr.nil:Tr α).wW p=none:=by cases p<;>rfl
theorem Tr.Jp(l r:Tr α)(v:Option α):(Tr.node l v r).wW []=v:=rfl
theorem Tr.Jq(l r:Tr α)(v:Option α)(b:Bool)(p:List Bool):(Tr.node l v r).wW (b::p)=if b=true then l.wW p else r.wW p:=by cases b<;>rfl
theorem Tr.Gn(l r:Tr α)(x v:Option α)(b:Bool)(p:List Bool):Tr.mQ v (b::p) (Tr.node l x r)=if b=true then .node (Tr.mQ v p l) x r else .node l x (Tr.mQ v p r):=by cases b<;>rfl
theorem Tr.OJ(v:Option α)(b:Bool)(p:List Bool):Tr.mQ v (b::p) (Tr.nil:Tr α)=if b=true then .node (Tr.mQ v p .nil) none .nil else .node .nil none (Tr.mQ v p .nil):=by cases b<;>rfl
theorem Tr.N9(v:Option α):∀(p q:List Bool) (t:Tr α),(Tr.mQ v p t).wW q=if q=p then v else t.wW q
 |[],q,t=>by
  cases t with
  |nil=>
   show(Tr.node .nil v .nil).wW q=_;cases q with
   |nil=>simp[Tr.Jp]
   |cons b q=>simp[Tr.Jq,Tr.JF]
  |node l x r=>
   show(Tr.node l v r).wW q=_;cases q with
   |nil=>simp[Tr.Jp]
   |cons b q=>simp[Tr.Jq]
 |a::p,q,t=>by
  cases t with
  |nil=>
   rw[Tr.OJ];cases q with
   |nil=>cases a<;>simp[Tr.Jp,Tr.JF]
   |cons b q=>cases a<;>cases b<;>simp[Tr.Jq,Tr.JF,Tr.N9 v p q]
  |node l x r=>
   rw[Tr.Gn];cases q with
   |nil=>cases a<;>simp[Tr.Jp]
   |cons b q=>cases a<;>cases b<;>simp[Tr.Jq,Tr.N9 v p q]
def path(f:Nat):Nat->List Bool:= @Nat.rec (fun _=>Nat->List Bool) (fun _=>[]) (fun _ ih n=> @Bool.rec (fun _=>List Bool) (List.cons (Tx (Nat.mod n 2) 1)<|ih<|Nat.div (Nat.pred n) 2) []<|Tx n 0) f
theorem OK(a b:α)(c:Bool): @Bool.rec (fun _=>α) a b c=if c=true then b else a:=by cases c<;>rfl
theorem beq_eq(n m:Nat):(Tx n m=true)=(n=m):=by rw[Nat.beq_eq]
theorem Jr(f n:Nat):path (f+1) n=if n=0 then[] else(Tx (n % 2) 1)::path f ((n - 1) / 2):=by show @Bool.rec (fun _=>List Bool) (List.cons (Tx (n % 2) 1)<|path f<|(n - 1) / 2) [] (Tx n 0)=_;simp only[OK,beq_eq]
theorem amD:∀(f n m:Nat),n+1<=2 ^ f->m+1<=2 ^ f->path f n=path f m->n=m
 |0,n,m,hn,hm,_=>by simp at hn hm;omega
 |f+1,n,m,hn,hm,h=>by
  rw[Jr,Jr] at h;have hp:2 ^ (f+1)=2*2 ^ f:=by rw[U3];omega
  by_cases h0:n=0
  ·by_cases h1:m=0
   ·omega
   ·rw[if_pos h0,if_neg h1] at h;cases h
  ·by_cases h1:m=0
   ·rw[if_neg h0,if_pos h1] at h;cases h
   ·rw[if_neg h0,if_neg h1] at h;injection h with ha hb
    have:=amD f _ _ (by omega) (by omega) hb;have hq:(n % 2=1)=(m % 2=1):=by rw[←beq_eq, ←beq_eq,ha]
    have eN:n % 2=1↔m % 2=1:=by rw[hq]
    omega
def top:Nat:=549755813888
def Tr.get(t:Tr α)(n:Nat):Option α:=Tr.wW (path 40 n) t
def Tr.put(t:Tr α)(n:Nat)(v:Option α):Tr α:=Tr.mQ v (path 40 n) t
theorem Tr.get_nil(n:Nat):(Tr.nil:Tr α).get n=none:=Tr.JF _
theorem aaM:∀(f k n:Nat),n+1<2 ^ k->(path f n).length<k
 |0,k,n,h=>by
  have:k≠0:=by intro e;subst e;simp at h
  show 0<k;omega
 |f+1,k,n,h=>by
  rw[Jr];have hk:k≠0:=by intro e;subst e;simp at h
  by_cases h0:n=0
  ·rw[if_pos h0];show 0<k;omega
  ·rw[if_neg h0];obtain⟨j,rfl⟩:∃j,k=j+1:=⟨k - 1,by omega⟩;have hp:2 ^ (j+1)=2*2 ^ j:=by rw[U3];omega
   have:=aaM f j ((n - 1) / 2) (by omega);simp only[TL];omega
theorem alN:∀(f k n:Nat),k<=f->2 ^ k<=n+1->k<=(path f n).length
 |_,0,_,_,_=>TN _
 |0,k+1,_,h,_=>by omega
 |f+1,k+1,n,h,hn=>by
  have hp:2 ^ (k+1)=2*2 ^ k:=by rw[U3];omega
  have h1:1<=2 ^ k:=Nat.one_le_two_pow;rw[Jr,if_neg<|by omega];have:=alN f k ((n - 1) / 2) (by omega) (by omega);simp only[TL];omega
theorem anq{n m:Nat}(h:n<top)(e:m≠n):path 40 m≠path 40 n:=by
 unfold top at h;by_cases hm:m+1<=2 ^ 40
 ·exact fun k=>e<|amD 40 m n hm (by omega) k
 ·intro k;have h1:=alN 40 40 m (Tz _) (by omega);have h2:=aaM 40 40 n (by omega);rw[k] at h1;omega
theorem Tr.mh(t:Tr α)(n m:Nat)(v:Option α)(h:n<top):(t.put n v).get m=if m=n then v else t.get m:=by
 unfold Tr.get Tr.put;rw[Tr.N9];by_cases e:m=n
 ·subst e;simp
 ·simp[e,anq h e]
theorem Tr.dy(t:Tr α)(n m:Nat)(v:Option α)(h:n<top)(_:m<top):(t.put n v).get m=if m=n then v else t.get m:=Tr.mh t n m v h
def Tr.fill(l:List α):Nat->Tr α->Tr α:= @List.rec α (fun _=>Nat->Tr α->Tr α) (fun _ t=>t) (fun x _ ih i t=>ih (Nat.succ i)<|t.put i<|some x) l
theorem Tr.OL:∀(l:List α) (i:Nat) (t:Tr α) (m:Nat),i+l.length<=top->m<top->
 (Tr.fill l i t).get m=if i<=m/\m<i+l.length then l[m - i]? else t.get m
 |[],i,t,m,_,_=>by show t.get m=_;simp;intro h1 h2;omega
 |x::l,i,t,m,h,hm=>by
  simp only[TL] at h;show(Tr.fill l (i+1)<|t.put i<|some x).get m=_;rw[Tr.OL l _ _ _ (by omega) hm,Tr.dy _ _ _ _ (by omega) hm];simp only[TL];by_cases h1:i+1<=m/\m<i+1+l.length
  ·have h2:i<=m/\m<i+(l.length+1):=by omega
   rw[if_pos h1,if_pos h2];obtain⟨k,rfl⟩:∃k,m=i+1+k:=⟨m - (i+1),by omega⟩;rw[show i+1+k - (i+1)=k from by omega,show i+1+k - i=k+1 from by omega];simp
  ·rw[if_neg h1];by_cases e:m=i
   ·subst e;simp
   ·have h2:¬(i<=m/\m<i+(l.length+1)):=by omega
    rw[if_neg e,if_neg h2]
theorem Tr.rR:∀(l:List α) (i:Nat) (t:Tr α) (m:Nat),i+l.length<=top->
 (Tr.fill l i t).get m=if i<=m/\m<i+l.length then l[m - i]? else t.get m
 |[],i,t,m,_=>by show t.get m=_;simp;intro h1 h2;omega
 |x::l,i,t,m,h=>by
  simp only[TL] at h;show(Tr.fill l (i+1)<|t.put i<|some x).get m=_;rw[Tr.rR l _ _ _ (by omega),Tr.mh _ _ _ _<|by omega];simp only[TL];by_cases h1:i+1<=m/\m<i+1+l.length
  ·have h2:i<=m/\m<i+(l.length+1):=by omega
   rw[if_pos h1,if_pos h2];obtain⟨k,rfl⟩:∃k,m=i+1+k:=⟨m - (i+1),by omega⟩;rw[show i+1+k - (i+1)=k from by omega,show i+1+k - i=k+1 from by omega];simp
  ·rw[if_neg h1];by_cases e:m=i
   ·subst e;simp
   ·have h2:¬(i<=m/\m<i+(l.length+1)):=by omega
    rw[if_neg e,if_neg h2]
end
theorem ak(h:P:=by omega):P:=h
theorem gp(h:P:=by simp[Op.operands]):P:=h
theorem iv(h:P:=by decide):P:=h
theorem j0(h:P:=by simp):P:=h
theorem FD(h:P:=by rw[←ag.nx];exact h1):P:=h
theorem xk(h:P:=by simp;omega):P:=h
theorem FE(h:P:=by rw[←hg];exact h2):P:=h
end
section
variable {l:List Item} {it:Item}
def loose(b:Array Nat)(i j:Nat):Bool:= !((b.getD i 0).testBit j||(b.getD j 0).testBit i)
def J5(ops:Array Oper):Prop:=∀(j:Nat) (o:Oper) (e:Edge),ops[j]? =some o->e∈o.after->Region.binds .any e=true->e.on<j
def afc(ops:Array Oper):Prop:=∀(i j:Nat) (x y:Oper) (d:Tmp),i≠j->ops[i]? =some x->ops[j]? =some y->x.dst=some d->(d∈y.looksAt ops\/y.dst=some d)->loose (T1 ops) i j=false
structure Ll (ops:Array Oper):Prop where
 Yf:J5 ops
 EK:afc ops
def iS:Code->Prop
 | .seq a b=>iS a/\iS b
 | .cond _ a b=>iS a/\iS b
 | .block _ b=>iS b
 | .loop b=>iS b
 | .scope b=>iS b
 | .region _ ops draw=>draw=true->Ll ops
 | .rangeFunc _ _ a b=>iS a/\iS b
 |_=>True
def Ku:Item->Prop
 | .code c=>iS c
 | .inLoop b=>iS b
 | .inScope b=>iS b
 |_=>True
def jQ(l:List Item):Prop:=∀it∈l,Ku it
structure G1 (bU:Option Code) (assign body:Code):Prop where
 bU:∀c,bU=some c->iS c
 assign:iS assign
 body:iS body
theorem jQ.cons(h:Ku it)(k:jQ l):jQ<|it::l:=by
 intro x hx;rcases Ty.1 hx with rfl|hx
 ·exact h
 ·exact k x hx
theorem jQ.head(h:jQ<|it::l):Ku it:=h it TA
theorem jQ.tail(h:jQ<|it::l):jQ l:=fun x hx=>h x<|TB _ hx
theorem jQ.nil:jQ []:=fun _ h=>by cases h
theorem Oa{id:Nat}:∀{k k':List Item},exitTo id k=some k'->jQ k->jQ k'
  |[],_,h,_=>by simp[exitTo] at h
  | it::k,k',h,hk=>by
    cases it<;>simp only[exitTo] at h<;>first
      |exact Oa h hk.tail
      | (split at h
         · injection h with h;subst h;exact hk.tail
         · exact Oa h hk.tail)
theorem abj{l:Nat}:∀{c r:Code},findLabel c l=some r->iS c->iS r:=by
 intro c;induction c with
 |seq a b C0 C1=>
  intro r h hc;simp only[findLabel] at h;cases e:findLabel a l with
  |some q=>rw[e] at h;injection h with h;subst h;exact⟨C0 e hc.1,hc.2⟩
  |none=>rw[e] at h;exact C1 h hc.2
 |label l'=>
  intro r h _;simp only[findLabel] at h;split at h
  ·injection h with h;subst h;trivial
  ·cases h
 |_=>intro r h _;simp[findLabel] at h
theorem Ob{l:Nat}:∀{k k':List Item},gotoIn l k=some k'->jQ k->jQ k'
 |[],_,h,_=>by simp[gotoIn] at h
 |it::k,k',h,hk=>by
  cases it<;>simp only[gotoIn] at h<;>first
   |exact Ob h hk.tail
   |skip
  rename_i body;cases e:findLabel body l with
  |some q=>rw[e] at h;injection h with h;subst h;exact .cons (abj e hk.head) hk
  |none=>rw[e] at h;exact Ob h hk.tail
end
section
variable {n sh b nt:Nat} {w:World} {v:Value} {a:Array Value}
inductive cx where
 |known (c:Nat)
 |au (lo e:Nat)
 |lost
 deriving Inhabited,DecidableEq
inductive AV where
 |bool (b:Bool)
 |int (k:IntKind) (n:Int)
 |str (s:ByteArray)
 |ptr (a:Option<|Nat×Nat)
 |slice (a:Option<|Nat×Nat) (len:Nat) (cap:cx)
 |ab (n o len:Nat)
 |ql (n o:Nat)
 |map (r:Option Nat)
 |func (fn:Fn) (first captured:List AV)
 |yield (l:Nat)
 |nilFunc
 |iface (t:TypeId) (v:AV)
 |nilIface
 |agg (cells:List AV)
 |tuple (vs:List AV)
 |LU (n:Nat)
 deriving Inhabited
abbrev Ren:=Nat->Option (Nat×Nat)
def Ren.le(ρ σ:Ren):Prop:=∀n x,ρ n=some x->σ n=some x
theorem Ren.le_refl(ρ:Ren):ρ.le ρ:=fun _ _ h=>h
theorem Ren.le_trans{ρ σ τ:Ren}(h:ρ.le σ)(k:σ.le τ):ρ.le τ:=fun n x e=>k n x<|h n x e
def anr:Fn->Bool
 | .yield _=>false
 |_=>true
def pr(a b:Nat):Nat:=2 ^ a*(2*b+1)
theorem fL:∀{a b c d:Nat},pr a b=pr c d->a=c/\b=d
 |0,b,0,d,h=>by unfold pr at h;omega
 |0,b,c+1,d,h=>by
  unfold pr at h;have e:2 ^ (c+1)*(2*d+1)=2*(2 ^ c*(2*d+1)):=by rw[U3,UQ (2 ^ c) 2,VG]
  rw[e] at h;omega
 |a+1,b,0,d,h=>by
  unfold pr at h;have e:2 ^ (a+1)*(2*b+1)=2*(2 ^ a*(2*b+1)):=by rw[U3,UQ (2 ^ a) 2,VG]
  rw[e] at h;omega
 |a+1,b,c+1,d,h=>by
  have e1:pr (a+1) b=2*pr a b:=by unfold pr;rw[U3,UQ (2 ^ a) 2,VG]
  have e2:pr (c+1) d=2*pr c d:=by unfold pr;rw[U3,UQ (2 ^ c) 2,VG]
  let⟨h1,h2⟩:=fL (a:=a) (b:=b) (c:=c) (d:=d) ak;exact⟨by omega,h2⟩
def hn(n b sh:Nat):Nat:=top+pr n (pr b sh)
theorem gb(n b sh:Nat):top<=hn n b sh:=Ve _ _
theorem Es{n' b' MD:Nat}(h:hn n b sh=hn n' b' MD):n=n'/\b=b'/\sh=MD:=by unfold hn at h;let⟨h1,h2⟩:=fL (show pr n (pr b sh)=pr n' (pr b' MD) by omega);exact⟨h1,fL h2⟩
def qZ(ρ:Ren)(n b sh:Nat):Prop:=(¬top<=n/\ρ n=some (b,sh))\/(top<=n/\ρ (hn n b sh)≠none)
theorem qZ.high{ρ:Ren}(h:qZ ρ n b sh)(ht:top<=n):ρ (hn n b sh)≠none:=h.elim (fun h=>absurd ht h.1) fun h=>h.2
theorem qZ.low{ρ:Ren}(h:qZ ρ n b sh)(ht:¬top<=n):ρ n=some (b,sh):=h.elim (fun h=>h.2) fun h=>absurd h.1 ht
theorem qZ.mono{ρ σ:Ren}(h:ρ.le σ):qZ ρ n b sh->qZ σ n b sh
  | .inl ⟨a,b⟩=>.inl ⟨a,h _ _ b⟩
  | .inr ⟨a,b⟩=>.inr ⟨a,fun e=>b (by
    cases q:ρ (hn n _ sh) with
    |none=>rfl
    |some x=>rw[h _ _ q] at e;cases e)⟩
def zOk(n:Nat)(a:Option Addr)(c:Nat):Prop:=(a=none->c=0)/\(n=top->a=none)/\(n=top+1->a≠none)
mutual
def VR(ρ:Ren):AV->Value->Prop
 | .bool b,v=>v= .bool b
 | .int k n,v=>v= .int k n
 | .str s,v=>v= .string s
 | .ptr none,v=>v= .pointer none
 | .ptr (some (n,o)),v=>∃b N,ρ n=some (b,N)/\v= .pointer (some ⟨b,o,none⟩)
 | .slice none len (.known c),v=>v= .slice none len c/\len=0/\c=0
 | .slice none _ (.au _ _),_=>False
 | .slice none _ .lost,_=>False
 | .slice (some (n,_)) len .lost,v=>len=0/\∃b N o c,ρ n=some (b,N)/\v= .slice (some ⟨b,o,none⟩) 0 c
 | .slice (some (n,o)) len (.known c),v=>∃b N,ρ n=some (b,N)/\v= .slice (some ⟨b,o,none⟩) len c
 | .slice (some (n,o)) len (.au lo e),v=>∃b N c,ρ n=some (b,N)/\v= .slice (some ⟨b,o,none⟩) len c/\lo<=c/\len<=c/\o+c*e<=N
 | .ab n o len,v=>(top<=n/\len=0/\∃a c,v= .slice a 0 c/\zOk n a c)\/∃b sh c,qZ ρ n b sh/\v= .slice (some ⟨b,sh+o,none⟩) len c/\(top<=n->len<=c/\n≠top)
 | .ql n o,v=>∃b sh,qZ ρ n b sh/\v= .pointer (some ⟨b,sh+o,none⟩)
 | .map none,v=>v= .map none
 | .map (some n),v=>∃b N,ρ n=some (b,N)/\v= .map (some b)
 | .func fn first captured,v=>anr fn=true/\∃f c,v= .func fn f c/\ax ρ first f.toList/\ax ρ captured c.toList
 | .yield l,v=>∃b N,ρ l=some (b,N)/\v= .func (.yield b) #[] #[]
 | .nilFunc,v=>v= .nilFunc
 | .iface t x,v=>∃y,v= .iface t y/\VR ρ x y
 | .nilIface,v=>v= .nilIface
 | .agg l,v=>∃a,v= .agg a/\ax ρ l a.toList
 | .tuple l,v=>∃a,v= .tuple a/\ax ρ l a.toList
 | .LU n,v=>v= .string ⟨(Uw n (0:UInt8)).toArray⟩
def ax(ρ:Ren):List AV->List Value->Prop
 |[],l=>l=[]
 |x::xs,l=>∃y ys,l=y::ys/\VR ρ x y/\ax ρ xs ys
end
mutual
theorem VR.mono{ρ σ:Ren}(h:ρ.le σ):∀(x:AV) (v:Value),VR ρ x v->VR σ x v
 | .bool _,_,k=>by simpa only[VR] using k
 | .int _ _,_,k=>by simpa only[VR] using k
 | .str _,_,k=>by simpa only[VR] using k
 | .LU _,_,k=>by simpa only[VR] using k
 | .ptr none,_,k=>by simpa only[VR] using k
 | .ptr (some (n,o)),_,k=>by simp only[VR] at k ⊢;let⟨b,N,e,r⟩:=k;exact⟨b,N,h _ _ e,r⟩
 | .slice none len (.known c),_,k=>by simpa only[VR] using k
 | .slice none _ (.au _ _),_,k=>by simp only[VR] at k
 | .slice none _ .lost,_,k=>by simp only[VR] at k
 | .slice (some (n,o)) len .lost,_,k=>by simp only[VR] at k ⊢;let⟨l,b,N,p,c,e,r⟩:=k;exact⟨l,b,N,p,c,h _ _ e,r⟩
 | .slice (some (n,o)) len (.known c),_,k=>by simp only[VR] at k ⊢;let⟨b,N,e,r⟩:=k;exact⟨b,N,h _ _ e,r⟩
 | .slice (some (n,o)) len (.au lo e),_,k=>by simp only[VR] at k ⊢;let⟨b,N,c,e,r⟩:=k;exact⟨b,N,c,h _ _ e,r⟩
 | .ab n o len,_,k=>by simp only[VR] at k ⊢;rcases k with k|⟨b,sh,c,e,r⟩;exact .inl k;exact .inr ⟨b,sh,c,e.mono h,r⟩
 | .ql n o,_,k=>by simp only[VR] at k ⊢;let⟨b,sh,e,r⟩:=k;exact⟨b,sh,e.mono h,r⟩
 | .map none,_,k=>by simpa only[VR] using k
 | .map (some n),_,k=>by simp only[VR] at k ⊢;let⟨b,N,e,r⟩:=k;exact⟨b,N,h _ _ e,r⟩
 | .func fn first captured,_,k=>by simp only[VR] at k ⊢;let⟨p,f,c,e,r,s⟩:=k;exact⟨p,f,c,e,ax.mono h _ _ r,ax.mono h _ _ s⟩
 | .yield l,_,k=>by simp only[VR] at k ⊢;let⟨b,N,e,r⟩:=k;exact⟨b,N,h _ _ e,r⟩
 | .nilFunc,_,k=>by simpa only[VR] using k
 | .iface t x,_,k=>by simp only[VR] at k ⊢;let⟨y,e,r⟩:=k;exact⟨y,e,VR.mono h _ _ r⟩
 | .nilIface,_,k=>by simpa only[VR] using k
 | .agg l,_,k=>by simp only[VR] at k ⊢;let⟨a,e,r⟩:=k;exact⟨a,e,ax.mono h _ _ r⟩
 | .tuple l,_,k=>by simp only[VR] at k ⊢;let⟨a,e,r⟩:=k;exact⟨a,e,ax.mono h _ _ r⟩
theorem ax.mono{ρ σ:Ren}(h:ρ.le σ):∀(x:List AV) (v:List Value),ax ρ x v->ax σ x v
 |[],_,k=>by simpa only[ax] using k
 |x::xs,_,k=>by simp only[ax] at k ⊢;let⟨y,ys,e,r,s⟩:=k;exact⟨y,ys,e,VR.mono h _ _ r,ax.mono h _ _ s⟩
end
theorem ax.length{ρ:Ren}:∀{x:List AV} {v:List Value},ax ρ x v->x.length=v.length
 |[],_,k=>by simp only[ax] at k;subst k;rfl
 |x::xs,_,k=>by simp only[ax] at k;obtain⟨y,ys,rfl,_,s⟩:=k;simp[ax.length s]
theorem ax.get{ρ:Ren}:∀{x:List AV} {v:List Value},ax ρ x v->∀(i:Nat) (a:AV),x[i]? =some a->∃b,v[i]? =some b/\VR ρ a b
 |[],_,_,_,_,h=>by simp at h
 |x::xs,_,k,i,a,h=>by
  simp only[ax] at k;obtain⟨y,ys,rfl,r,s⟩:=k;cases i with
  |zero=>simp at h;subst h;exact⟨y,rfl,r⟩
  |succ i=>simp at h;let⟨b,hb,hr⟩:=ax.get s i a h;exact⟨b,by simpa using hb,hr⟩
theorem ax.append{ρ:Ren}:∀{x:List AV} {v:List Value} {x':List AV} {v':List Value},ax ρ x v->ax ρ x' v'->ax ρ (x++x') (v++v')
 |[],_,_,_,k,h=>by simp only[ax] at k;subst k;simpa using h
 |x::xs,_,_,_,k,h=>by simp only[ax] at k;obtain⟨y,ys,rfl,r,s⟩:=k;simp only[Vf,ax];exact⟨y,_,rfl,r,ax.append s h⟩
theorem ax.Xy{ρ:Ren}:∀(x:List AV) (v:List Value),x.length=v.length->(∀(i:Nat) (a:AV) (b:Value),x[i]? =some a->v[i]? =some b->VR ρ a b)->ax ρ x v
 |[],[],_,_=>by simp only[ax]
 |[],_::_,h,_=>by simp at h
 |_::_,[],h,_=>by simp at h
 |x::xs,y::ys,h,k=>by simp only[ax];exact⟨y,ys,rfl,k 0 x y rfl rfl,ax.Xy xs ys (by simpa using h) fun i a b ha hb=>k (i+1) a b (by simpa using ha)<|by simpa using hb⟩
theorem ax.take{ρ:Ren}:∀(n:Nat) {x:List AV} {v:List Value},ax ρ x v->ax ρ (x.take n) (v.take n)
 |0,_,_,_=>by simp[ax]
 |n+1,[],_,k=>by simp only[ax] at k;subst k;simp[ax]
 |n+1,x::xs,_,k=>by simp only[ax] at k;obtain⟨y,ys,rfl,r,s⟩:=k;simp only[Vs,ax];exact⟨y,_,rfl,r,ax.take n s⟩
theorem ax.drop{ρ:Ren}:∀(n:Nat) {x:List AV} {v:List Value},ax ρ x v->ax ρ (x.drop n) (v.drop n)
 |0,_,_,k=>by simpa using k
 |n+1,[],_,k=>by simp only[ax] at k;subst k;simp[ax]
 |n+1,x::xs,_,k=>by simp only[ax] at k;obtain⟨y,ys,rfl,r,s⟩:=k;simpa using ax.drop n s
def qQ:AV:=.tuple []
theorem VR.undef(ρ:Ren):VR ρ qQ Go.undef:=by simp only[qQ,Go.undef,VR,ax];exact⟨#[],rfl,rfl⟩
def AV.cells:AV->List AV
 | .agg l=>l
 |v=>[v]
theorem VR.cells{ρ:Ren}{x:AV}(h:VR ρ x v):ax ρ x.cells v.cells.toList:=by
 cases x<;>(try (simp only[VR] at h;subst h;simp only[AV.cells,Value.cells,ax,VR];exact⟨_,_,rfl,rfl,rfl⟩))
 case ptr a=>
  cases a with
  |none=>simp only[VR] at h;subst h;simp only[AV.cells,Value.cells,ax,VR];exact⟨_,_,rfl,rfl,rfl⟩
  |some a=>let⟨n,o⟩:=a;have h':=h;simp only[VR] at h';obtain⟨b,N,_,rfl⟩:=h';simp only[AV.cells,Value.cells,ax];exact⟨_,_,rfl,h,rfl⟩
 case slice a len cap=>
  have:∃p q r,v= .slice p q r:=by
   cases a with
   |none=>cases cap<;>simp only[VR] at h;exact⟨_,_,_,h.1⟩
   |some a=>
    let⟨n,o⟩:=a;cases cap<;>simp only[VR] at h
    ·obtain⟨b,N,_,rfl⟩:=h;exact⟨_,_,_,rfl⟩
    ·obtain⟨b,N,c,_,rfl,_⟩:=h;exact⟨_,_,_,rfl⟩
    ·obtain⟨_,b,N,p,c,_,rfl⟩:=h;exact⟨_,_,_,rfl⟩
  obtain⟨p,q,r,rfl⟩:=this;simp only[AV.cells,Value.cells,ax];exact⟨_,_,rfl,h,rfl⟩
 case ab n o len=>
  have h':=h;simp only[VR] at h';rcases h' with⟨_,_,_,_,rfl,_⟩|⟨b,sh,c,_,rfl,_⟩<;>
  (simp only[AV.cells,Value.cells,ax];exact⟨_,_,rfl,h,rfl⟩)
 case ql n o=>have h':=h;simp only[VR] at h';obtain⟨b,sh,_,rfl⟩:=h';simp only[AV.cells,Value.cells,ax];exact⟨_,_,rfl,h,rfl⟩
 case map a=>
  cases a with
  |none=>simp only[VR] at h;subst h;simp only[AV.cells,Value.cells,ax,VR];exact⟨_,_,rfl,rfl,rfl⟩
  |some a=>have h':=h;simp only[VR] at h';obtain⟨b,N,_,rfl⟩:=h';simp only[AV.cells,Value.cells,ax];exact⟨_,_,rfl,h,rfl⟩
 case func fn f c=>have h':=h;simp only[VR] at h';obtain⟨_,_,_,rfl,_⟩:=h';simp only[AV.cells,Value.cells,ax];exact⟨_,_,rfl,h,rfl⟩
 case yield l=>have h':=h;simp only[VR] at h';obtain⟨_,_,_,rfl⟩:=h';simp only[AV.cells,Value.cells,ax];exact⟨_,_,rfl,h,rfl⟩
 case iface t x=>have h':=h;simp only[VR] at h';obtain⟨_,rfl,_⟩:=h';simp only[AV.cells,Value.cells,ax];exact⟨_,_,rfl,h,rfl⟩
 case agg l=>simp only[VR] at h;obtain⟨a,rfl,k⟩:=h;simpa only[AV.cells,Value.cells] using k
 case tuple l=>have h':=h;simp only[VR] at h';obtain⟨_,rfl,_⟩:=h';simp only[AV.cells,Value.cells,ax];exact⟨_,_,rfl,h,rfl⟩
def AV.bM:AV->Bool
 | .agg _| .tuple _=>false
 |_=>true
theorem VR.bM{ρ:Ren}{x:AV}(h:VR ρ x v)(hx:x.bM=true):∀cs,v≠ .agg cs/\v≠ .tuple cs:=by
 intro cs;cases x<;>(try (simp only[VR] at h;subst h;simp;done))<;>(try (simp[AV.bM] at hx;done))
 case ptr a=>
  cases a with
  |none=>simp only[VR] at h;subst h;simp
  |some a=>let⟨n,o⟩:=a;simp only[VR] at h;obtain⟨_,_,_,rfl⟩:=h;simp
 case slice a len cap=>
  cases a with
  |none=>cases cap<;>simp only[VR] at h;rw[h.1];simp
  |some a=>
   let⟨n,o⟩:=a;cases cap<;>simp only[VR] at h
   ·obtain⟨_,_,_,rfl⟩:=h;simp
   ·obtain⟨_,_,_,_,rfl,_⟩:=h;simp
   ·obtain⟨_,_,_,_,_,_,rfl⟩:=h;simp
 case ab n o len=>simp only[VR] at h;rcases h with⟨_,_,_,_,rfl,_⟩|⟨_,_,_,_,rfl,_⟩<;>simp
 case ql n o=>simp only[VR] at h;obtain⟨_,_,_,rfl⟩:=h;simp
 case map a=>
  cases a with
  |none=>simp only[VR] at h;subst h;simp
  |some a=>simp only[VR] at h;obtain⟨_,_,_,rfl⟩:=h;simp
 case func fn f c=>simp only[VR] at h;obtain⟨_,_,_,rfl,_⟩:=h;simp
 case yield l=>simp only[VR] at h;obtain⟨_,_,_,rfl⟩:=h;simp
 case iface t x=>simp only[VR] at h;obtain⟨_,rfl,_⟩:=h;simp
inductive ah where
 |cells (n:Nat) (t:Tr AV) (z:List AV)
 |map (es:List<|AV×AV) (bu:Nat)
 |lN (es:List<|AV×AV)
 |loop (st:LoopState) (bU:Option Code) (fn:FuncId) (tmps:Tr AV) (nt:Nat) (params:List Tmp) (assign body:Code) (defers:Nat)
 |defs
 |ro (n:Nat) (t:Tr AV)
 |uD (n:Nat) (t:Tr AV)
 |GQ (s:ByteArray) (pos:Nat)
 |iter (m:Nat) (es:List<|AV×AV) (exact:Bool) (left:List<|AV×AV) (cur:Option<|AV×AV)
 |iT
 |tok (k:Nat) (v:AV)
 deriving Inhabited
def cellAt(t:Tr AV)(z:List AV)(i:Nat):Option AV:=
 match t.get i with
 |some v=>some v
 |none=>z[i % z.length]?
def ah.dA:ah->Bool
 | .ro _ _=>true
 | .uD _ _=>true
 | .tok _ _=>true
 |_=>false
def ah.nq:ah->Bool
 | .ro _ _=>true
 | .uD _ _=>true
 |_=>false
theorem ah.kL:∀{o:ah},o.nq=true->o.dA=true
 | .ro _ _,_=>rfl
 | .uD _ _,_=>rfl
 | .cells _ _ _,h=>by cases h
 | .map _ _,h=>by cases h
 | .lN _,h=>by cases h
 | .loop _ _ _ _ _ _ _ _ _,h=>by cases h
 | .defs,h=>by cases h
 | .GQ _ _,h=>by cases h
 | .iter _ _ _ _ _,h=>by cases h
 | .iT,h=>by cases h
 | .tok _ _,h=>by cases h
def TR(ρ:Ren)(nt:Nat)(t:Tr AV)(a:Array Value):Prop:=a.size=nt/\∀i x,t.get i=some x->VR ρ x (a.getD i Go.undef)
theorem TR.mono{ρ σ:Ren}(h:ρ.le σ){t:Tr AV}(k:TR ρ nt t a):TR σ nt t a:=⟨k.1,fun i x e=>VR.mono h _ _<|k.2 i x e⟩
theorem TR.set{ρ:Ren}{t:Tr AV}(k:TR ρ nt t a){d:Nat}{x:AV}(hd:d<nt)(ht:nt<=top)(h:VR ρ x v):
 TR ρ nt (t.put d<|some x) (a.setIfInBounds d v):=by
 refine⟨by simp[k.1],fun i y hy=>?_⟩;rw[Tr.mh _ _ _ _ ak] at hy;by_cases e:i=d
 ·subst e;have:(a.setIfInBounds i v).getD i Go.undef=v:=by rw[Ua,Vg (by rw[k.1];exact hd)];rfl
  rw[if_pos rfl] at hy;injection hy with hy;subst hy
  rw[this];exact h
 ·have:(a.setIfInBounds d v).getD i Go.undef=a.getD i Go.undef:=by rw[Ua,Vh ak, ←Ua]
  rw[if_neg e] at hy;rw[this];exact k.2 i y hy
def kF(ρ:Ren):List (AV×AV)->List MapEntry->Nat->Prop
 |[],l,_=>l=[]
 |x::xs,l,i=>∃e es,l=e::es/\VR ρ x.1 e.key/\VR ρ x.2 e.val/\e.born=i/\kF ρ xs es (i+1)
theorem kF.mono{ρ σ:Ren}(h:ρ.le σ):∀(x:List<|AV×AV) (l:List MapEntry) (i:Nat),kF ρ x l i->kF σ x l i
 |[],_,_,k=>k
 |x::xs,_,i,k=>by let⟨e,es,r,a,b,c,d⟩:=k;exact⟨e,es,r,VR.mono h _ _ a,VR.mono h _ _ b,c,kF.mono h xs es _ d⟩
def eA(ρ:Ren):List (AV×AV)->List MapEntry->Prop
 |[],l=>l=[]
 |x::xs,l=>∃e es,l=e::es/\VR ρ x.1 e.key/\VR ρ x.2 e.val/\eA ρ xs es
theorem eA.mono{ρ σ:Ren}(h:ρ.le σ):∀(x:List<|AV×AV) (l:List MapEntry),eA ρ x l->eA σ x l
 |[],_,k=>k
 |x::xs,_,k=>by let⟨e,es,r,a,b,d⟩:=k;exact⟨e,es,r,VR.mono h _ _ a,VR.mono h _ _ b,eA.mono h xs es d⟩
theorem kF.eqs{ρ:Ren}:∀{x:List<|AV×AV} {l:List MapEntry} {i:Nat},kF ρ x l i->eA ρ x l
 |[],_,_,k=>k
 |_::_,_,_,k=>by let⟨e,es,r,a,b,_,d⟩:=k;exact⟨e,es,r,a,b,d.eqs⟩
def xm(ρ:Ren)(es:List<|AV×AV)(l:List MapEntry):Prop:=∃l',l.Perm l'/\eA ρ es l'
theorem xm.mono{ρ σ:Ren}(h:ρ.le σ){x:List<|AV×AV}{l:List MapEntry}(k:xm ρ x l):xm σ x l:=by let⟨l',p,n⟩:=k;exact⟨l',p,n.mono h⟩
def sameKey:AV->AV->Option Bool
 | .int k a,.int k' b=>match decide (k=k') with
  |true=>some<|a == b
  |false=>none
 | .str a,.str b=>some<|a == b
 | .bool a,.bool b=>some<|a == b
 |_,_=>none
def lL(es:List<|AV×AV):Prop:=es.Pairwise fun a b=>sameKey a.1 b.1=some false/\sameKey b.1 a.1=some false
def ui(l:List MapEntry)(bu:Nat):Prop:=(l.map (·.born)).Nodup/\∀e∈l,e.born<bu
def OR(ρ:Ren)(N:Nat):ah->Obj->Prop
 | .cells n t z,o=>∃c e,o= .cells c e (0,0)/\c.size=N/\n<=N/\∀i,i<n->∃x v,cellAt t z i=some x/\x.bM=true/\c[i]? =some v/\VR ρ x v
 | .map es bu,o=>∃l,o= .map l bu/\bu=es.length/\kF ρ es l.toList 0
 | .lN es,o=>∃l bu,o= .map l bu/\lL es/\ui l.toList bu/\xm ρ es l.toList
 | .loop st bU fn tmps nt params assign body defers,o=>∃a b M,o= .loop {state:=st,pending:=bU,fn,tmps:=a,params:=params.toArray,assign,body,defers:=b}/\TR ρ nt tmps a/\nt<=top/\ρ defers=some (b,M)/\G1 bU assign body
 | .defs,o=>o= .deferred (some [])
 | .ro n t,o=>∃c e fr,o= .cells c e fr/\c.size=N/\n=N/\∀i,i<n->∃x v,t.get i=some x/\x.bM=true/\c[i]? =some v/\VR ρ x v
 | .uD n t,o=>∃c e fr,o= .cells c e fr/\∀i,i<n->∃x v,t.get i=some x/\x.bM=true/\c[N+i]? =some v/\VR ρ x v
 | .GQ s pos,o=>o= .stringIter s pos
 | .iter m _ _ _ _,o=>∃b M c s,ρ m=some (b,M)/\o= .mapIter (some b) c s c
 | .iT,o=>∃l bu,o= .map l bu
 | .tok _ _,_=>True
theorem OR.mono{ρ σ:Ren}(h:ρ.le σ){N:Nat}{x:ah}{o:Obj}(k:OR ρ N x o):OR σ N x o:=by
 cases x<;>simp only[OR] at k ⊢
 case cells n t z=>let⟨c,e,r,s,u,f⟩:=k;exact⟨c,e,r,s,u,fun i hi=>let ⟨x,v,a,b,d,q⟩:=f i hi;⟨x,v,a,b,d,VR.mono h _ _ q⟩⟩
 case map es bu=>let⟨l,r,c,s⟩:=k;exact⟨l,r,c,kF.mono h _ _ _ s⟩
 case lN es=>let⟨l,c,r,a,b,s⟩:=k;exact⟨l,c,r,a,b,s.mono h⟩
 case loop st bU fn tmps nt params assign body defers=>let⟨a,b,M,r,s,q,u,v⟩:=k;exact⟨a,b,M,r,s.mono h,q,h _ _ u,v⟩
 case defs=>exact k
 case ro n t=>let⟨c,e,q,r,s,u,f⟩:=k;exact⟨c,e,q,r,s,u,fun i hi=>let ⟨x,v,a,b,d,q⟩:=f i hi;⟨x,v,a,b,d,VR.mono h _ _ q⟩⟩
 case uD n t=>let⟨c,e,q,r,f⟩:=k;exact⟨c,e,q,r,fun i hi=>let ⟨x,v,a,b,d,q⟩:=f i hi;⟨x,v,a,b,d,VR.mono h _ _ q⟩⟩
 case GQ s pos=>exact k
 case iter m es ex left cur=>let⟨b,M,c,s,r,q⟩:=k;exact⟨b,M,c,s,h _ _ r,q⟩
 case iT=>exact k
def ni(ρ:Ren)(w:World)(n m:Nat)(es:List<|AV×AV)(exact:Bool)(left:List<|AV×AV)(cur:Option<|AV×AV):Prop:=
 ∃b N bm M l bu seen,ρ n=some (b,N)/\ρ m=some (bm,M)/\w.heap[b]? =some (.mapIter (some bm) bu seen bu)/\w.heap[bm]? =some (.map l bu)/\
  ui l.toList bu/\(exact=true->bu=es.length/\kF ρ es l.toList 0)/\(exact=false->lL es/\xm ρ es l.toList)/\
  xm ρ left (l.toList.filter fun e=> !seen.contains e.born)/\
  (match cur with
  |none=>seen= #[]
  |some x=>∃e,e∈l.toList/\seen.back?=some e.born/\VR ρ x.1 e.key/\VR ρ x.2 e.val)
theorem ni.mono{ρ σ:Ren}(h:ρ.le σ){m:Nat}{es:List<|AV×AV}{ex:Bool}{left:List<|AV×AV}{cur:Option<|AV×AV}(k:ni ρ w n m es ex left cur):ni σ w n m es ex left cur:=by
 let⟨b,N,bm,M,l,bu,seen,h1,h2,h3,h4,h5,h6,h7,h8,h9⟩:=k;refine⟨b,N,bm,M,l,bu,seen,h _ _ h1,h _ _ h2,h3,h4,h5,fun e=>⟨(h6 e).1,(h6 e).2.mono h⟩,fun e=>⟨(h7 e).1,(h7 e).2.mono h⟩,h8.mono h,?_⟩;cases cur with
 |none=>exact h9
 |some x=>let⟨e,a,b,c,d⟩:=h9;exact⟨e,a,b,VR.mono h _ _ c,VR.mono h _ _ d⟩
structure aE where
 may:Nat->Prop
 F:Nat->Option (List AV)
 dM:Nat->Prop
 inv:Nat->AV->Ren->World->Nat->(Nat->Prop)->Prop
 lim:Nat
 mono:∀{k v ρ σ w w' b H},inv k v ρ w b H->(∀m x,top<=m->ρ m=some x->σ m=some x)->(∀x,H x->w'.heap[x]? =w.heap[x]?)->inv k v σ w' b H
def agP(W:World):aE:=⟨fun k=>W.heap.size<=k,fun _=>none,fun _=>True,fun _ _ _ _ _ _=>False,W.heap.size,fun h _ _=>h⟩
def kG(ρ:Ren)(h:Tr ah)(b:Nat):Prop:=∀m o N,m<top->h.get m=some o->o.dA=false->ρ m≠some (b,N)
def gK(ρ:Ren):Ren:=fun k=>if top<=k then ρ k else none
theorem P1(ρ:Ren):(gK ρ).le ρ:=by
 intro k x e;unfold gK at e;split at e
 ·exact e
 ·cases e
theorem D1{ρ σ:Ren}(h:ρ.le σ):(gK ρ).le<|gK σ:=by
 intro k x e;unfold gK at e ⊢;split at e
 ·rename_i q;rw[if_pos q];exact h _ _ e
 ·cases e
def Fz(B:aE)(ρ:Ren)(h:Tr ah)(w:World):Prop:=∀n b sh,ρ (hn n b sh)≠none->(B.dM (hn n b sh)\/B.may b)/\∃l c e fr,B.F n=some l/\w.heap[b]? =some (.cells c e fr)/\kG ρ h b/\∀i x,l[i]? =some x->∃v,c[sh+i]? =some v/\VR (gK ρ) x v/\x.bM=true
def vh(B:aE)(ρ:Ren)(h:Tr ah)(w:World):Prop:=(B.lim<=w.heap.size/\∀m o,m<top->h.get m=some o->o.nq=true->∃b N,ρ m=some (b,N)/\b<B.lim)/\∃H:Nat->Nat->Prop,(∀n k v,n<top->h.get n=some (.tok k v)->∃b N,ρ n=some (b,N)/\B.inv k v ρ w b (H n)/\H n b/\∀x,H n x->(x<w.heap.size/\B.lim<=x)/\B.may x/\kG ρ h x/\∀j sh,ρ (hn j x sh)=none)/\∀n m x k v k' v',n<top->m<top->h.get n=some (.tok k v)->h.get m=some (.tok k' v')->n≠m->H n x->¬H m x
theorem vh.of{B:aE}{ρ σ:Ren}{h h':Tr ah}{w':World}(f:vh B ρ h w)(hl:ρ.le σ)(ht:∀n o,n<top->h'.get n=some o->o.dA=true->h.get n=some o)(hs:w.heap.size<=w'.heap.size)(hw:∀b,b<w.heap.size->kG ρ h b->w'.heap[b]? =w.heap[b]?)(hd:∀b,b<w.heap.size->kG ρ h b->kG σ h' b)(hm:∀j x sh,x<w.heap.size->kG ρ h x->ρ (hn j x sh)=none->σ (hn j x sh)=none):vh B σ h' w':=by
 let⟨h0,H,h1,h2⟩:=f;refine⟨⟨TO h0.1 hs,fun m o fG hg hf=>?_⟩,H,fun n k v hn hg=>?_,fun n m x k v k' v' hn fG g1 g2=>h2 n m x k v k' v' hn fG (ht _ _ hn g1 rfl)<|ht _ _ fG g2 rfl⟩
 ·let⟨b,N,e1,e2⟩:=h0.2 m o fG (ht _ _ fG hg<|ah.kL hf) hf;exact⟨b,N,hl _ _ e1,e2⟩
 let⟨b,N,a1,a2,a3,a4⟩:=h1 n k v hn<|ht _ _ hn hg rfl;refine⟨b,N,hl _ _ a1,B.mono a2 (fun m x _ e=>hl _ _ e) fun x hx=>?_,a3,fun x hx=>?_⟩
 ·let⟨⟨c1,_⟩,_,c3,_⟩:=a4 x hx;exact hw x c1 c3
 ·let⟨⟨c1,cl⟩,c2,c3,c4⟩:=a4 x hx;exact⟨⟨TJ c1 hs,cl⟩,c2,hd x c1 c3,fun j sh=>hm j x sh c1 c3<|c4 j sh⟩
theorem vh.no{B:aE}{ρ:Ren}{h:Tr ah}(hn:∀n k v,n<top->h.get n=some (.tok k v)->False)(hl:B.lim<=w.heap.size/\∀m o,m<top->h.get m=some o->o.nq=true->∃b N,ρ m=some (b,N)/\b<B.lim):vh B ρ h w:=⟨hl,fun _ _=>False,fun n k v ht hg=>(hn n k v ht hg).elim,fun n _ _ k v _ _ ht _ hg _ _ _=>(hn n k v ht hg).elim⟩
structure Rel (B:aE) (ρ:Ren) (h:Tr ah) (w:World):Prop where
 is:∀n o,n<top->h.get n=some o->∃b N o',ρ n=some (b,N)/\w.heap[b]? =some o'/\OR ρ N o o'/\(o.dA=false->B.may b)
 one:∀n m o p b N M,n<top->m<top->h.get n=some o->h.get m=some p->(o.dA=false\/p.dA=false)->ρ n=some (b,N)->ρ m=some (b,M)->n=m
 iter:∀n m es ex left cur,n<top->h.get n=some (.iter m es ex left cur)->m<top/\h.get m=some .iT/\ni ρ w n m es ex left cur
 size:∀k,w.heap.size<=k->B.may k
 lone:∀i j m es ex left cur iw jr iW iY,i<top->j<top->h.get i=some (.iter m es ex left cur)->h.get j=some (.iter m iw jr iW iY)->i=j
 fz:Fz B ρ h w
 tk:vh B ρ h w
end
section
variable {α β:Type}
structure AS where
 h:Tr ah
 nx:Nat
 mark:Nat
 rd:List Nat
 wr:List Nat
inductive R (α:Type) where
 |bad
 |ok (a:α) (s:AS)
def M(α:Type):Type:=AS->R α
def M.pure(a:α):M α:=fun s=>.ok a s
def M.bind(m:M α)(f:α->M β):M β:=fun s=> @R.rec α (fun _=>R β) .bad (fun a s1=>f a s1)<|m s
instance:Monad M where
 pure:=M.pure
 bind:=M.bind
def fail:M α:=fun _=>.bad
def lift(o:Option α):M α:=fun s=> @Option.rec α (fun _=>R α) .bad (fun a=>.ok a s) o
def aB(o:Option α)(f:α->M β):M β:=fun s=> @Option.rec α (fun _=>R β) .bad (fun a=>f a s) o
def qm(b:Bool):M Unit:=fun s=> @Bool.rec (fun _=>R Unit) .bad (.ok () s) b
def aG(b:Bool)(m:M β):M β:=fun s=> @Bool.rec (fun _=>R β) .bad (m s) b
def forced(n:Nat)(k:Nat->α):α:= @Nat.rec (fun _=>α) (k 0) (fun m _=>k<|m+1) n
theorem zO(n:Nat)(k:Nat->α):forced n k=k n:=by cases n<;>rfl
def bA(n:Nat):M ah:=fun s=>
 @AS.rec (fun _=>R ah) (fun h nx mark rd wr=>
  @Bool.rec (fun _=>R ah) .bad
   (@Option.rec ah (fun _=>R ah) .bad
    (fun o=> @Bool.rec (fun _=>R ah) (.ok o ⟨h,nx,mark,rd,wr⟩) (.ok o ⟨h,nx,mark,n::rd,wr⟩)<|Tv n mark)
    (h.get n))
   (Tv n nx)) s
def bS(n:Nat)(o:Option ah):M Unit:=fun s=>
 @AS.rec (fun _=>R Unit) (fun h nx mark rd wr=>
  @Bool.rec (fun _=>R Unit) .bad
   (@Option.rec ah (fun _=>R Unit) .bad
    (fun p=> @Bool.rec (fun _=>R Unit)
     (@Bool.rec (fun _=>R Unit) (.ok () ⟨h.put n o,nx,mark,rd,wr⟩) (.ok () ⟨h.put n o,nx,mark,n::rd,n::wr⟩)<|Tv n mark)
     .bad p.dA)
    (h.get n))
   (and (Tv n nx)<|Tv n top)) s
def gQ(o:ah):M Nat:=fun s=> @AS.rec (fun _=>R Nat) (fun h nx mark rd wr=> @Bool.rec (fun _=>R Nat) .bad (forced nx fun m=>.ok m ⟨h.put m<|some o,m+1,mark,rd,wr⟩)<|Tv nx top) s
end
section
def G2:Value->Option AV
 | .bool b=>some<|.bool b
 | .int k n=>some<|.int k n
 | .string s=>some<|.str s
 | .pointer none=>some<|.ptr none
 | .slice none len cap=>match Tx len 0&&Tx cap 0 with
  |true=>some<|.slice none 0<|.known 0
  |false=>none
 | .map none=>some<|.map none
 | .nilFunc=>some .nilFunc
 | .nilIface=>some .nilIface
 |_=>none
def yb:List Value->Option (List AV)
 |[]=>some []
 |v::l=>match G2 v with
  |none=>none
  |some x=>match yb l with
   |none=>none
   |some r=>some<|x::r
def ofValue:Value->Option AV
 | .agg cs=>match yb cs.toList with
  |none=>none
  |some l=>some<|.agg l
 | .tuple cs=>match yb cs.toList with
  |none=>none
  |some l=>some<|.tuple l
 |v=>G2 v
def fY:Nat:=256
def aF(t:Tr AV)(x:Operand):Option AV:= @Operand.rec (fun _=>Option AV) (fun i=>t.get i) (fun v=>ofValue v) (fun g=> @Bool.rec (fun _=>Option AV) none (some<|.ptr<|some (g,0))<|Tv g fY) (fun f=>some<|.func (.func f) [] []) x
def eZ(P:Program)(t:TypeId):Option Nat:=
 match P.info? t with
 |none=>none
 |some i=>some i.size
def qd(P:Program)(t:TypeId):Option AV:=
 match P.info? t with
 |none=>none
 |some i=>match i.zero with
  |none=>none
  |some v=>ofValue v
def rf(P:Program)(t:TypeId):Option Bool:=
 match P.underlying t with
 |some (.struct _)=>some true
 |some (.array _ _)=>some true
 |some _=>some false
 |none=>none
def ly(t:Tr AV)(z:List AV):Nat->Nat->Option (List AV)
 |0,_=>some []
 |k+1,off=>match cellAt t z off with
  |none=>none
  |some v=>match ly t z k (off+1) with
   |none=>none
   |some l=>some<|v::l
def jz(n off:Nat):Nat->M (List AV)
 |0=>M.pure []
 |k+1=>(bA n).bind fun o=>match o with
  | .cells m t z=>aG (Tw (off+(k+1)) m) <| lift<|ly t z (k+1) off
  | .ro m t=>aG (Tw (off+(k+1)) m) <| lift<|ly t [] (k+1) off
  |_=>fail
def rQ(n off:Nat)(l:List AV):M Unit:=
  match l with
  |[]=>M.pure ()
  | x ::r=>(bA n).bind fun o=>match o with
    | .cells m t z=>aG (and (Tw (off+(r.length+1)) m)<|and (Tw m top)<|(x::r).all AV.bM) <|
      bS n (some<|.cells m (Tr.fill (x::r) off t) z)
    |_=>fail
def newRow(l:List AV):M Nat:=aG (and (Tw l.length top)<|l.all AV.bM) <| gQ<|.cells l.length (Tr.fill l 0 .nil) []
def one:List AV->Option AV
 |[v]=>some v
 |_=>none
def loadVar(P:Program)(t:TypeId)(n off:Nat):M AV:=
 aB (rf P t) fun ag=>match ag with
  |true=>aB (eZ P t) fun k=>(jz n off k).bind fun l=>M.pure<|.agg l
  |false=>(jz n off 1).bind fun l=>lift<|one l
def storeVar(P:Program)(t:TypeId)(n off:Nat)(v:AV):M Unit:=aB (eZ P t) fun k=>aG (Tx v.cells.length k) <| rQ n off v.cells
def addrOf:AV->Option (Nat×Nat)
 | .ptr (some a)=>some a
 |_=>none
def intOf:AV->Option Int
 | .int _ n=>some n
 |_=>none
def ym:AV->Option Bool
 | .bool b=>some b
 |_=>none
def wF(P:Program)(t:TypeId)(cs:List AV)(off:Nat):Option AV:=
 match rf P t with
 |none=>none
 |some true=>match eZ P t with
  |none=>none
  |some k=>some<|.agg<|(cs.drop off).take k
 |some false=>cs[off]?
def setCells:List AV->List AV->Nat->List AV
 |cs,[],_=>cs
 |cs,c::l,off=>setCells (cs.set off c) l<|off+1
def yn(place:Nat->Option (Nat×Nat)):List AV->List (Nat×AV)->Option (List AV)
 |cells,[]=>some cells
 |cells,(i,v)::rest=>match place i with
  |none=>none
  |some (off,size)=>
   match Tx v.cells.length size&&Tw (off+v.cells.length) cells.length with
   |false=>none
   |true=>yn place (setCells cells v.cells off) rest
def kv(ev:Operand->Option AV):List Operand->Option (List AV)
 |[]=>some []
 |x::l=>match ev x with
  |none=>none
  |some v=>match kv ev l with
   |none=>none
   |some r=>some<|v::r
def wG(ev:Operand->Option AV):List (Nat×Operand)->Option (List<|Nat×AV)
 |[]=>some []
 |(i,x)::l=>match ev x with
  |none=>none
  |some v=>match wG ev l with
   |none=>none
   |some r=>some<|(i,v)::r
def BS(P:Program):List Field->Option (List<|Nat×Nat)
 |[]=>some []
 |f::l=>match eZ P f.type with
  |none=>none
  |some k=>match BS P l with
   |none=>none
   |some r=>some<|(f.offset,k)::r
def build(P:Program)(t:TypeId)(parts:List<|Nat×AV):Option AV:=
 match qd P t with
 |none=>none
 |some z=>match P.underlying t with
  |some (.struct fs)=>match BS P fs.toList with
   |none=>none
   |some pl=>match yn (fun i=>pl[i]?) z.cells parts with
    |none=>none
    |some l=>some<|.agg l
  |some (.array _ e)=>match eZ P e with
   |none=>none
   |some k=>match yn (fun i=>some (i*k,k)) z.cells parts with
    |none=>none
    |some l=>some<|.agg l
  |_=>none
def GG:Nat->List AV->List AV
 |0,_=>[]
 |n+1,z=>z++GG n z
def buildSlice(P:Program)(t:TypeId)(len:Nat)(parts:List<|Nat×AV):M AV:=do
  match P.underlying t with
  | some (.slice e)=>do
    let k ←lift (eZ P e)
    let z ←lift (qd P e)
    qm (Tw (len*k) 1048576&&Tx z.cells.length k)
    let l ←lift (yn (fun i=>some (i*k,k)) (GG len z.cells) parts)
    let r ←newRow l
    pure (.slice (some (r,0)) len<|.known len)
  |_=>fail
def fieldAddr(P:Program)(s:TypeId)(x:AV)(field:Nat):Option AV:=
 match P.underlying s with
 |some (.struct fs)=>match fs[field]? with
  |none=>none
  |some f=>match eZ P f.type with
   |none=>none
   |some k=>match Tx k 0 with
    |true=>none
    |false=>match x with
     | .ptr (some (n,o))=>some<|.ptr<|some (n,o+f.offset)
     | .ql n o=>some<|.ql n<|o+f.offset
     |_=>none
 |_=>none
def ans(P:Program)(s:TypeId)(x:AV)(field:Nat):Option AV:=
 match P.underlying s,x with
 |some (.struct fs),.agg cs=>match fs[field]? with
  |none=>none
  |some f=>wF P f.type cs f.offset
 |_,_=>none
def within(i:Int)(len:Nat):Option Nat:=
 match i with
 | .ofNat n=>match Tv n len with
  |true=>some n
  |false=>none
 | .negSucc _=>none
def indexAddr(P:Program)(t:TypeId)(x ix:AV):Option AV:=
 match intOf ix with
 |none=>none
 |some i=>match P.underlying t,x with
  |some (.array len e),.ptr (some (n,o))=>match within i len,eZ P e with
   |some j,some k=>some<|.ptr<|some (n,o+j*k)
   |_,_=>none
  |some (.slice e),.slice (some (n,o)) len _=>match within i len,eZ P e with
   |some j,some k=>some<|.ptr<|some (n,o+j*k)
   |_,_=>none
  |some (.slice e),.ab n o len=>match within i len,eZ P e with
   |some j,some k=>some<|.ql n<|o+j*k
   |_,_=>none
  |_,_=>none
def indexOf(P:Program)(t:TypeId)(x ix:AV):Option AV:=
 match intOf ix with
 |none=>none
 |some i=>match P.underlying t,x with
  |some (.array len e),.agg cs=>match within i len,eZ P e with
   |some j,some k=>wF P e cs<|j*k
   |_,_=>none
  |some .string,.str s=>match within i s.size with
   |some j=>match s.data.toList[j]? with
    |some b=>some<|.int .u8 b.toNat
    |none=>none
   |none=>none
  |_,_=>none
def bound(x:Option AV)(uR aka:Nat):Option Nat:=
 match x with
 |none=>some aka
 |some v=>match intOf v with
  |none=>none
  |some i=>within i<|uR+1
def opt(ev:Operand->Option AV):Option Operand->Option (Option AV)
 |none=>some none
 |some x=>match ev x with
  |none=>none
  |some v=>some<|some v
def jR(len:Nat)(c:cx):Nat:=
 match c with
 | .known c=>c
 | .au lo _=>lo
 | .lost=>len
def slice3(k:Nat)(a:Option<|Nat×Nat)(low:Nat)(lo hi:Option AV)(mx:AV):Option AV:=
 match bound (some mx) low 0 with
 |none=>none
 |some m=>match hi with
  |none=>none
  |some hi=>match bound (some hi) m 0 with
   |none=>none
   |some h=>match bound lo h 0 with
    |none=>none
    |some l=>match a with
     |none=>some<|.slice none (h - l)<|.known<|m - l
     |some (n,o)=>match Tx m l with
      |true=>some<|.slice (some (n,o)) (h - l)<|.known<|m - l
      |false=>some<|.slice (some (n,o+l*k)) (h - l)<|.known<|m - l
def yc(P:Program)(t:TypeId)(x:AV)(lo hi mx:Option AV):Option AV:=
 match P.underlying t,x with
 |some (.slice e),.slice a len cap=>
  match eZ P e with
  |none=>none
  |some k=>
   match mx with
   |some mx=>match cap with
    | .lost=>none
    |cap=>slice3 k a (jR len cap) lo hi mx
   |none=>
    match bound hi (jR len cap) len with
    |none=>none
    |some h=>match bound lo h 0 with
     |none=>none
     |some l=>match a,cap with
      |none,.known c=>some<|.slice none (h - l)<|.known<|c - l
      |none,_=>none
      |some (n,o),.known c=>match Tx c l with
       |true=>some<|.slice (some (n,o)) (h - l)<|.known<|c - l
       |false=>some<|.slice (some (n,o+l*k)) (h - l)<|.known<|c - l
      |some (n,o),.au b e=>match Tx l 0 with
       |true=>some<|.slice (some (n,o)) (h - l)<|.au b e
       |false=>none
      |some _,.lost=>none
 |some (.array len e),.ptr (some (n,o))=>
  match eZ P e with
  |none=>none
  |some k=>match mx with
   |some _=>none
   |none=>match bound hi len len with
    |none=>none
    |some h=>match bound lo h 0 with
     |none=>none
     |some l=>match Tx len l with
      |true=>some<|.slice (some (n,o)) (h - l)<|.known<|len - l
      |false=>some<|.slice (some (n,o+l*k)) (h - l)<|.known<|len - l
 |_,_=>none
def room:Nat:=140737488355328
def makeSlice(P:Program)(t:TypeId)(len cap:AV):M AV:=
 match P.underlying t with
 |some (.slice e)=>
  aB (intOf len) fun l=>aB (intOf cap) fun c=>aB (P.info? e) fun i=>aB (within c room) fun c=>aB (within l<|c+1) fun l=>aB (qd P e) fun z=>
  aG (and (Tw (c*i.bytes) room)<|and (Tw (c*i.size) top)<|and (or (Tx (c*i.size) 0)<|not<|Tx z.cells.length 0)<|z.cells.all AV.bM) <|
  (gQ<|.cells (c*i.size) .nil z.cells).bind fun r=>M.pure<|.slice (some (r,0)) l<|.known c
 |_=>fail
def firstCells(size n:Nat):AV->M (List AV)
 | .slice (some _) 0 .lost=>aG (Tx n 0) <| M.pure []
 | .slice (some (m,o)) _ _=>jz m o<|n*size
 | .slice none _ _=>M.pure []
 |_=>fail
def lenOf:AV->Option Nat
 | .slice _ n _=>some n
 |_=>none
def grown(size bytes nJ:Nat)(dM new:List AV):M AV:=
 aG (and (Tw (2*nJ*bytes+4096*bytes) room)<|not<|Tx bytes 0) <|
 (newRow<|dM++new).bind fun r=>M.pure<|.slice (some (r,0)) nJ<|.au nJ size
def xU(n off:Nat)(l:List AV):M Unit:=
  match l with
  |[]=>M.pure ()
  | x ::r=>(bA n).bind fun o=>match o with
    | .cells m t z=>aG (and (Tw off m)<|and (Tw (max m<|off+(r.length+1)) top)<|(x::r).all AV.bM) <|
      bS n (some<|.cells (max m<|off+(r.length+1)) (Tr.fill (x::r) off t) z)
    |_=>fail
def ah.zT:ah->Bool
 | .cells _ _ _=>true
 |_=>false
def tX(i:TypeInfo):Bool:=
 match i.zero with
 |none=>false
 |some v=>Tx v.cells.size i.size
def rT(size bytes:Nat)(base:Option<|Nat×Nat)(len:Nat)(cap:cx)(n:Nat)(new:List AV):M AV:=
 match cap with
 | .known c=>match Tw (len+n) c with
  |true=>(match base with
   |some (m,o)=>rQ m (o+len*size) new
   |none=>M.pure ()).bind fun _=>M.pure (.slice base (len+n)<|.known c)
  |false=>(firstCells size len<|.slice base len<|.known c).bind fun dM=>grown size bytes (len+n) dM new
 | .au lo sz=>aG (Tx sz size) <| match Tw (len+n) lo with
  |true=>match base with
   |some (m,o)=>(xU m (o+len*size) new).bind fun _=>M.pure<|.slice (some (m,o)) (len+n)<|.au lo sz
   |none=>fail
  |false=>match base with
   |some (m,0)=>(jz m 0<|len*size).bind fun dM=>(bA m).bind fun o=>aG o.zT <| (bS m none).bind fun _=>grown size bytes (len+n) dM new
   |_=>fail
 | .lost=>fail
def pZ(P:Program)(t:Option TypeId):Bool:=
 match t with
 |none=>true
 |some t=>match P.underlying t with
  |some (.int _)=>false
  |some _=>true
  |none=>false
def pX(P:Program)(argTypes:Array TypeId)(s x:AV):M AV:=
 aB argTypes[0]? fun t=>match P.underlying t,s with
 |some (.slice e),.slice base len cap=>
  aB (P.info? e) fun i=>aG (and (tX i)<|pZ P argTypes[1]?) <| aB (lenOf x) fun n=>(firstCells i.size n x).bind fun new=>
  aG (Tx new.length<|n*i.size) <| rT i.size i.bytes base len cap n new
 |_,_=>fail
def afd:AV->Bool
 | .slice _ _ .lost=>false
 |_=>true
def z7(P:Program)(argTypes:Array TypeId)(d x:AV):M AV:=
 aB argTypes[0]? fun t=>match P.underlying t,d with
 |some (.slice e),.slice base len cap=>
  aB (eZ P e) fun k=>aB (lenOf x) fun m=>aG (afd<|.slice base len cap) <| (firstCells k (Nat.min m len) x).bind fun cells=>
  (match base with
  |some (r,o)=>rQ r o cells
  |none=>M.pure ()).bind fun _=>M.pure (.int .i64 (Nat.min m len:Nat))
 |_,_=>fail
def eqFields(P:Program)(eq:TypeId->AV->AV->Option Bool)(xs ys:List AV):List Field->Option Bool
 |[]=>some true
 |f::l=>match f.name == "_" with
  |true=>eqFields P eq xs ys l
  |false=>match wF P f.type xs f.offset,wF P f.type ys f.offset with
   |some a,some b=>match eq f.type a b with
    |none=>none
    |some false=>some false
    |some true=>eqFields P eq xs ys l
   |_,_=>none
def Rg(n len:Nat):Option Bool:=match len with
 |0=>match Tx n top with
  |true=>some true
  |false=>match Tx n (top+1) with
   |true=>some false
   |false=>none
 |_+1=>some false
def qy(P:Program):Nat->TypeId->AV->AV->Option Bool
 |0,_,_,_=>none
 |d+1,t,x,y=>
  match P.underlying t,x,y with
  |some .bool,.bool a,.bool b=>some<|a == b
  |some (.int _),.int k a,.int k' b=>match decide (k=k') with
   |true=>some<|a == b
   |false=>none
  |some (.pointer _),.ptr none,.ptr b=>some b.isNone
  |some (.pointer _),.ptr (some _),.ptr none=>some false
  |some (.struct fs),.agg xs,.agg ys=>match P.stoodInHeld t with
   |true=>none
   |false=>eqFields P (qy P d) xs ys fs.toList
  |some (.slice _),.slice none _ _,.slice b _ _=>some b.isNone
  |some (.slice _),.slice (some _) _ _,.slice none _ _=>some false
  |some (.slice _),.ab n _ len,.slice none _ _=>Rg n len
  |_,_,_=>none
def isConst:Operand->Bool
 | .const _=>true
 |_=>false
def Oc(P:Program)(t:TypeId)(x y:Operand)(a b:AV):Bool:=
 match a,b with
 | .nilIface,.nilIface=>isConst x||isConst y
 | .agg _,.agg _=> !P.eqGuardType P.depth t
 |_,_=>true
def EL(op:BinOp)(k:IntKind)(a b:Int):Option AV:=
 match op with
 | .add=>some<|.int k<|k.wrap<|a+b
 | .sub=>some<|.int k<|k.wrap<|a - b
 | .mul=>some<|.int k<|k.wrap<|a*b
 | .quo=>match decide (b=0) with
  |true=>none
  |false=>some<|.int k<|k.wrap<|a.tdiv b
 | .rem=>match decide (b=0) with
  |true=>none
  |false=>some<|.int k<|a.tmod b
 | .and=>some<|.int k<|k.wrap (BitVec.ofInt k.bits a&&& BitVec.ofInt k.bits b).toNat
 | .or=>some<|.int k<|k.wrap (BitVec.ofInt k.bits a|||BitVec.ofInt k.bits b).toNat
 | .xor=>some<|.int k<|k.wrap (BitVec.ofInt k.bits a ^^^ BitVec.ofInt k.bits b).toNat
 | .andNot=>some<|.int k<|k.wrap (BitVec.ofInt k.bits a&&& ~~~BitVec.ofInt k.bits b).toNat
 | .eql=>some<|.bool<|a == b
 | .neq=>some<|.bool<|a != b
 | .lss=>some<|.bool<|a<b
 | .leq=>some<|.bool<|a<=b
 | .gtr=>some<|.bool<|a>b
 | .geq=>some<|.bool<|a>=b
 |_=>none
def Pp(op:BinOp)(k:IntKind)(x y:Int):Option AV:=
 match decide (y<0) with
 |true=>none
 |false=>match op with
  | .shl=>some<|.int k<|k.wrap<|x*2 ^ min y.toNat k.bits
  | .shr=>some<|.int k<|x.fdiv<|2 ^ min y.toNat k.bits
  |_=>none
def zU:BinOp->Bool
 | .shl| .shr=>true
 |_=>false
def B4(P:Program)(op:BinOp)(t:TypeId)(x y:AV):Option AV:=
 match x,y with
 | .int k a,.int k' b=>match zU op with
  |true=>Pp op k a b
  |false=>match decide (k=k') with
   |true=>EL op k a b
   |false=>none
 |x,y=>match op with
  | .eql=>match qy P Op.maxDepth t x y with
   |none=>none
   |some b=>some<|.bool b
  | .neq=>match qy P Op.maxDepth t x y with
   |none=>none
   |some b=>some<|.bool !b
  |_=>none
def Yg(op:UnOp)(x:AV):Option AV:=
 match op,x with
 | .not,.bool b=>some<|.bool !b
 |_,_=>none
def OM(P:Program)(src dst:TypeId)(x:AV):Option AV:=
 match P.underlying src,P.underlying dst,x with
 |some _,some (.int k),.int _ n=>some<|.int k<|k.wrap n
 |_,_,_=>none
def plainKey(P:Program)(t:TypeId)(key:AV):Bool:=
 match P.underlying t,key with
 |some (.int _),.int _ _=>true
 |some .string,.str _=>true
 |some .bool,.bool _=>true
 |_,_=>false
def lu(key:AV):List (AV×AV)->Nat->Option (Option<|Nat×AV)
 |[],_=>some none
 |(k,v)::l,i=>match sameKey key k with
  |none=>none
  |some true=>some<|some (i,v)
  |some false=>lu key l<|i+1
def GH(P:Program)(t:TypeId)(key:AV):List (AV×AV)->Nat->Option (Option<|Nat×AV)
 |[],_=>some none
 |(k,v)::l,i=>match qy P Op.maxDepth t key k with
  |none=>none
  |some true=>some<|some (i,v)
  |some false=>GH P t key l<|i+1
def vj:AV->Bool
 | .LU _=>false
 |_=>true
def findKey(P:Program)(t:TypeId)(key:AV)(es:List<|AV×AV):Option<|Option<|Nat×AV:=
 match vj key with
 |false=>none
 |true=>match plainKey P t key with
  |true=>lu key es 0
  |false=>GH P t key es 0
def Gp(P:Program)(C2:TypeId->AV->Bool)(cs:List AV):List Field->Bool
 |[]=>true
 |f::l=>match f.name == "_" with
  |true=>Gp P C2 cs l
  |false=>match wF P f.type cs f.offset with
   |none=>false
   |some a=>match C2 f.type a with
    |true=>Gp P C2 cs l
    |false=>false
def pj(P:Program):Nat->TypeId->AV->Bool
 |0,_,_=>false
 |d+1,t,x=>match P.underlying t,x with
  |some .bool,_=>true
  |some (.int _),_=>true
  |some .string,_=>true
  |some (.struct fs),.agg cs=>Gp P (pj P d) cs fs.toList
  |_,_=>false
def Xz(r:Nat):M<|List<|AV×AV:=do
 match ←bA r with
 | .map es _=>pure es
 | .lN es=>pure es
 |_=>fail
def short:List (AV×AV)->Bool
 |[]=>true
 |[_]=>true
 |_=>false
def z8(P:Program)(k:TypeId)(key x:AV):M<|List<|AV×AV:=
 match x with
 | .map none=>M.pure []
 | .map (some r)=>(bA r).bind fun o=>match o with
  | .map es _=>M.pure es
  | .lN es=>aG (or (plainKey P k key)<|short es) <| M.pure es
  |_=>fail
 |_=>fail
def mW(ok:Bool)(v:AV)(b:Bool):AV:=
 match ok with
 |true=>.tuple [v,.bool b]
 |false=>v
def zV(P:Program)(t:TypeId)(x key:AV)(ok:Bool):M AV:=
 match P.underlying t with
 |some (.map k e)=>(z8 P k key x).bind fun es=>aG (pj P 10000 k key) <| aB (findKey P k key es) fun f=>match f with
  |some q=>M.pure<|mW ok q.2 true
  |none=>aB (qd P e) fun z=>M.pure<|mW ok z false
 |_=>fail
def Ed:List AV->List AV->Bool
 |[],[]=>true
 |x::xs,y::ys=>match sameKey x y with
  |some true=>Ed xs ys
  |_=>false
 |_,_=>false
def sameBits:AV->AV->Bool
 | .agg xs,.agg ys=>Ed xs ys
 |x,y=>match sameKey x y with
  |some true=>true
  |_=>false
def putAt:List (AV×AV)->Nat->AV->AV->List (AV×AV)
 |[],_,_,_=>[]
 |_::l,0,k,v=>(k,v)::l
 |x::l,i+1,k,v=>x::putAt l i k v
def EM(r:Nat)(key val:AV)(es:List<|AV×AV)(bu:Nat)(f:Option<|Nat×AV):M Unit:=
 match f with
 |some q=>aB es[q.1]? fun dM=>aG (sameBits dM.1 key) <| bS r<|some<|.map (putAt es q.1 key val) bu
 |none=>bS r<|some<|.map (es++[(key,val)])<|bu+1
def BI(r:Nat)(key val:AV)(es:List<|AV×AV)(f:Option<|Nat×AV):M Unit:=
 match f with
 |some q=>bS r<|some<|.lN<|putAt es q.1 key val
 |none=>bS r<|some<|.lN<|es++[(key,val)]
def yo(P:Program)(t:TypeId)(m key val:AV):M Unit:=
 match P.underlying t,m with
 |some (.map k _),.map (some r)=>(bA r).bind fun o=>match o with
  | .map es bu=>aG (pj P 10000 k key) <| aB (findKey P k key es) fun f=>EM r key val es bu f
  | .lN es=>aG (and (plainKey P k key)<|pj P 10000 k key) <| aB (findKey P k key es) fun f=>BI r key val es f
  |_=>fail
 |_,_=>fail
def AD(P:Program)(argTypes:Array TypeId)(x:AV):M AV:=do
 let t ←lift argTypes[0]?
 match P.underlying t,x with
 |some (.slice _),.slice _ n _=>pure<|.int .i64 n
 |some (.slice _),.ab _ _ n=>pure<|.int .i64 n
 |_,_=>fail
def min2:AV->AV->Option AV
 | .int k x,.int _ y=>some<|.int k (match decide (y<x) with|true=>y|false=>x)
 |_,_=>none
def max2:AV->AV->Option AV
 | .int k x,.int _ y=>some<|.int k (match decide (y>x) with|true=>y|false=>x)
 |_,_=>none
def Et(f:AV->AV->Option AV):List AV->AV->Option AV
 |[],x=>some x
 |y::l,x=>match f x y with
  |none=>none
  |some z=>Et f l z
def zR(P:Program)(b:Builtin)(argTypes:Array TypeId)(args:List AV):M AV:=
 match b,args with
 | .len,[x]=>AD P argTypes x
 | .append,[s,x]=>pX P argTypes s x
 | .copy,[d,x]=>z7 P argTypes d x
 | .min,x::l=>lift<|Et min2 l x
 | .max,x::l=>lift<|Et max2 l x
 |_,_=>fail
inductive Ip where
 |fn (f:FuncId)
 |round (l:Nat)
 |row (n o k:Nat)
def nK(Tu:Ip->List AV->M AV)(f:AV)(args:List AV):M AV:=
 match f with
 | .func (.func g) first captured=>Tu (.fn g)<|first++args++captured
 | .yield l=>Tu (.round l) args
 |_=>fail
abbrev aJ:=Ip->List AV->M AV
abbrev gR:=aJ->Tr AV->M AV
inductive rC (α:Type) where
 |mk (a:α)
def wJ(x:Operand):gR:=fun _ t=>lift<|aF t x
def Cr(c a b:Operand):gR:=fun _ t=>
 aB (aF t c) fun c=>aB (ym c) fun c=>aB (aF t a) fun a=>aB (aF t b) fun b=>
  match c with
  |true=>M.pure a
  |false=>M.pure b
def Kv(P:Program)(e:TypeId):gR:=fun _ _=>aB (qd P e) fun z=>(newRow z.cells).bind fun r=>M.pure<|.ptr<|some (r,0)
def CD(x:Operand):gR:=fun _ t=>aB (aF t x) fun v=>(newRow v.cells).bind fun r=>M.pure<|.ptr<|some (r,0)
def B5(P:Program)(ty:TypeId)(parts:List<|Nat×Operand):gR:=fun _ t=>aB (wG (aF t) parts) fun ps=>lift<|build P ty ps
def Bz(P:Program)(ty:TypeId)(len:Nat)(parts:List<|Nat×Operand):gR:=fun _ t=>aB (wG (aF t) parts) fun ps=>buildSlice P ty len ps
def yd(P:Program)(ty:TypeId)(n o:Nat):M AV:=
 aB (rf P ty) fun ag=>match ag with
  |true=>fail
  |false=>(bA n).bind fun ob=>match ob with
   | .uD m t=>aG (Tv o m) <| lift<|t.get o
   |_=>fail
def wq(P:Program)(ty:TypeId)(Tu:aJ)(n o:Nat):M AV:=
 aB (rf P ty) fun ag=>aB (eZ P ty) fun k=>(Tu (.row n o (match ag with|true=>k|false=>1)) []).bind fun v=>match v with
  | .agg l=>match ag with
   |true=>M.pure<|.agg l
   |false=>lift<|one l
  |_=>fail
def loadAt(P:Program)(ty:TypeId)(Tu:aJ)(a:AV):M AV:=
 match a with
 | .ql n o=>match Tw top n with
  |true=>wq P ty Tu n o
  |false=>yd P ty n o
 |a=>aB (addrOf a) fun a=>loadVar P ty a.1 a.2
def uE(P:Program)(ty:TypeId)(a:Operand):gR:=fun Tu t=>aB (aF t a) fun a=>loadAt P ty Tu a
def yp(P:Program)(ty:TypeId)(a x:Operand):gR:=fun _ t=>aB (aF t a) fun a=>aB (addrOf a) fun a=>aB (aF t x) fun v=>(storeVar P ty a.1 a.2 v).bind fun _=>M.pure qQ
def notNil:AV->Bool
 | .ptr none| .nilIface| .nilFunc=>false
 | .func (.func _) _ _=>true
 | .func _ _ _=>false
 |_=>true
def BC(x:Operand):gR:=fun _ t=>aB (aF t x) fun v=>aG (notNil v) <| M.pure v
def J6(P:Program)(op:BinOp)(t:TypeId)(x y:Operand)(a b:AV):Bool:=
 match op with
 | .eql| .neq=>Oc P t x y a b
 |_=>true
def uS(P:Program)(op:BinOp)(ty:TypeId)(x y:Operand):gR:=fun _ t=>aB (aF t x) fun a=>aB (aF t y) fun b=>aG (J6 P op ty x y a b) <| lift<|B4 P op ty a b
def C3(op:UnOp)(x:Operand):gR:=fun _ t=>aB (aF t x) fun a=>lift<|Yg op a
def BJ(P:Program)(src dst:TypeId)(x:Operand):gR:=fun _ t=>
 aB (aF t x) fun a=>match a with
  | .slice _ _ _=>fail
  |a=>lift<|OM P src dst a
def DP(P:Program)(ty:TypeId)(x:Operand):gR:=fun _ _=>fail
def YN:Fn->Bool
 | .func _=>true
 |_=>false
def BD(fn:Fn)(first captured:List Operand):gR:=fun _ t=>aG (YN fn) <| aB (kv (aF t) first) fun f=>aB (kv (aF t) captured) fun c=>M.pure<|.func fn f c
def Lm(P:Program)(t:TypeId):Bool:=
 match P.underlying t with
 |some (.map _ _)=>true
 |_=>false
def BK(P:Program)(ty:TypeId)(r:Option Operand):gR:=fun _ t=>
 (match r with
 |none=>M.pure ()
 |some x=>aB (aF t x) fun v=>aB (intOf v) fun _=>qm<|Lm P ty).bind fun _=>
 (gQ<|.map [] 0).bind fun n=>M.pure<|.map<|some n
def xS(P:Program)(ty:TypeId)(l c:Operand):gR:=fun _ t=>aB (aF t l) fun l=>aB (aF t c) fun c=>makeSlice P ty l c
def uj(P:Program)(ty:TypeId)(x:Operand)(lo hi mx:Option Operand):gR:=fun _ t=>aB (aF t x) fun x=>aB (opt (aF t) lo) fun lo=>aB (opt (aF t) hi) fun hi=>aB (opt (aF t) mx) fun mx=>lift<|yc P ty x lo hi mx
def BA(P:Program)(s:TypeId)(x:Operand)(f:Nat):gR:=fun _ t=>aB (aF t x) fun x=>lift<|fieldAddr P s x f
def B6(P:Program)(s:TypeId)(x:Operand)(f:Nat):gR:=fun _ t=>aB (aF t x) fun x=>lift<|ans P s x f
def qL(P:Program)(ty:TypeId)(x i:Operand):gR:=fun _ t=>aB (aF t x) fun x=>aB (aF t i) fun i=>lift<|indexAddr P ty x i
def B7(P:Program)(ty:TypeId)(x i:Operand):gR:=fun _ t=>aB (aF t x) fun x=>aB (aF t i) fun i=>lift<|indexOf P ty x i
def ye(P:Program)(ty:TypeId)(x i:Operand)(ok:Bool):gR:=fun _ t=>aB (aF t x) fun x=>aB (aF t i) fun i=>zV P ty x i ok
def qN(P:Program)(ty:TypeId)(m k x:Operand):gR:=fun _ t=>aB (aF t m) fun m=>aB (aF t k) fun k=>aB (aF t x) fun x=>(yo P ty m k x).bind fun _=>M.pure qQ
def Ee(P:Program)(asserted:TypeId)(ok:Bool)(x:Operand):gR:=fun _ _=>fail
def BT(P:Program)(ty:TypeId)(x:AV):M AV:=
 match P.underlying ty,x with
 |some (.map _ _),.map (some m)=>(bA m).bind fun o=>match o with
  | .map es _=>(bS m<|some .iT).bind fun _=>(gQ<|.iter m es true es none).bind fun n=>M.pure<|.ptr<|some (n,0)
  | .lN es=>(bS m<|some .iT).bind fun _=>(gQ<|.iter m es false es none).bind fun n=>M.pure<|.ptr<|some (n,0)
  |_=>fail
 |_,_=>fail
def B8(P:Program)(ty:TypeId)(x:Operand):gR:=fun _ t=>aB (aF t x) fun x=>BT P ty x
def afe(x:AV):M AV:=
 match x with
 | .ptr (some (n,0))=>(bA n).bind fun o=>match o with
  | .GQ b pos=>match Tv pos b.size with
   |true=>(bS n<|some<|.GQ b<|pos+(Utf8.decode b pos).2).bind fun _=>M.pure<|.tuple [.bool true,.int .i64 pos,.int .i32 (Utf8.decode b pos).1]
   |false=>M.pure<|.tuple [.bool false]
  |_=>fail
 |_=>fail
def D2(x:Operand):gR:=fun _ _=>fail
def Ef(x:AV):M AV:=
 match x with
 | .ptr (some (n,0))=>(bA n).bind fun o=>match o with
  | .iter _ _ _ _ (some (k,v))=>M.pure<|.tuple [k,v]
  |_=>fail
 |_=>fail
def B9(x:Operand):gR:=fun _ t=>aB (aF t x) fun x=>Ef x
def partOf(x:AV)(i:Nat):Option AV:=
 match x with
 | .tuple l=>l[i]?
 |_=>none
def BL(x:Operand)(i:Nat):gR:=fun _ t=>aB (aF t x) fun x=>lift<|partOf x i
def tZ(Tu:aJ)(n o k:Nat):M<|List AV:=match k with
 |0=>M.pure []
 |k=>(Tu (.row n o k) []).bind fun x=>match x with
  | .agg l=>aG (Tx l.length k) <| M.pure l
  |_=>fail
def QE(size len:Nat)(cap:cx):Bool:=
 match cap with
 | .known c=>and (Tx c 0)<|Tx len 0
 | .au _ sz=>Tx sz size
 | .lost=>false
def BU(P:Program)(Tu:aJ)(argTypes:Array TypeId)(s:AV)(n o k:Nat):M AV:=
 aG (Tw top n) <| aB argTypes[0]? fun t=>match P.underlying t,s with
 |some (.slice e),.slice (some (m,0)) len cap=>
  aB (P.info? e) fun i=>aG (and (tX i)<|pZ P argTypes[1]?) <| aG (QE i.size len cap) <|
  (tZ Tu n o<|k*i.size).bind fun new=>(jz m 0<|len*i.size).bind fun dM=>(bA m).bind fun ob=>aG ob.zT <| (bS m none).bind fun _=>grown i.size i.bytes (len+k) dM new
 |_,_=>fail
def o8(P:Program)(b:Builtin)(argTypes:Array TypeId)(args:List Operand):gR:=fun Tu t=>
 aB (kv (aF t) args) fun args=>match b,args with
 | .append,[s,.ab n o k]=>BU P Tu argTypes s n o k
 |b,args=>zR P b argTypes args
def uF(f:Operand)(args:List Operand):gR:=fun Tu t=>aB (kv (aF t) args) fun args=>aB (aF t f) fun f=>nK Tu f args
def Pq(P:Program)(recv:Operand)(name:String)(args:List Operand):gR:=fun _ _=>fail
def Yh:gR:=fun _ _=>fail
def dY(P:Program)(op:Op):rC gR:=
 match op with
 | .move x=>.mk<|wJ x
 | .assign x=>.mk<|wJ x
 | .pick c a b=>.mk<|Cr c a b
 | .alloc e=>.mk<|Kv P e
 | .box _ x=>.mk<|CD x
 | .build t parts=>.mk<|B5 P t parts.toList
 | .buildSlice t len parts=>.mk<|Bz P t len parts.toList
 | .load t a=>.mk<|uE P t a
 | .store t a x=>.mk<|yp P t a x
 | .nilCheck x=>.mk<|BC x
 | .binOp op t x y _=>.mk<|uS P op t x y
 | .unOp op _ x=>.mk<|C3 op x
 | .convert src dst x=>.mk<|BJ P src dst x
 | .makeInterface t x=>.mk<|DP P t x
 | .makeFunc fn first captured=>.mk<|BD fn first.toList captured.toList
 | .makeMap t r=>.mk<|BK P t r
 | .makeSlice t l c=>.mk<|xS P t l c
 | .slice t x lo hi mx=>.mk<|uj P t x lo hi mx
 | .fieldAddr s x f=>.mk<|BA P s x f
 | .field s x f=>.mk<|B6 P s x f
 | .indexAddr t x i=>.mk<|qL P t x i
 | .index t x i=>.mk<|B7 P t x i
 | .lookup t x i ok=>.mk<|ye P t x i ok
 | .mapUpdate t m k x=>.mk<|qN P t m k x
 | .insert t m k x=>.mk<|qN P t m k x
 | .typeAssert x _ asserted ok=>.mk<|Ee P asserted ok x
 | .range t x=>.mk<|B8 P t x
 | .entry x=>.mk<|B9 x
 | .next x true=>.mk<|D2 x
 | .extract x i=>.mk<|BL x i
 | .call ⟨.builtin b,args,argTypes⟩=>.mk<|o8 P b argTypes args.toList
 | .call ⟨.value f,args,_⟩=>.mk<|uF f args.toList
 | .call ⟨.invoke recv name,args,_⟩=>.mk<|Pq P recv name args.toList
 |_=>.mk Yh
def rC.val{α:Type}(b:rC α):α:= @rC.rec α (fun _=>α) (fun a=>a) b
def Iq(P:Program)(Tu:aJ)(t:Tr AV)(op:Op):M AV:=(dY P op).val Tu t
end
section
variable {α:Type}
section
structure AF where
 fn:FuncId
 tmps:Tr AV
 nt:Nat
 todo:List Item
 defers:List Nat
 round:Option Nat
def jD(nt:Nat)(t:Tr AV)(dst:Option Tmp)(v:AV):Option<|Tr AV:= @Option.rec Tmp (fun _=>Option<|Tr AV) (some t) (fun d=> @Bool.rec (fun _=>Option<|Tr AV) none (some<|t.put d<|some v)<|Tv d nt) dst
def GI(ops:Array Oper)(t:Tr AV)(j:Nat):Option Bool:=
 match ops[j]? with
 |none=>none
 |some o=>match o.dst with
  |none=>none
  |some d=>match t.get d with
   |some (.bool b)=>some b
   |_=>none
def qO(ops:Array Oper)(g:Nat×Bool)(t:Tr AV):Bool:=
 match GI ops t g.1 with
 |some b=>b == g.2
 |none=>false
def uk(ops:Array Oper)(t:Tr AV)(j:Nat):Bool:=
 match ops[j]? with
 |none=>true
 |some o=>match o.dst with
  |none=>true
  |some d=>(t.get d).isSome
abbrev QF:=aJ->Nat->Tr AV->M (Tr AV)
def te(f:rC gR)(dst:Option Tmp):QF:=fun Tu nt t=>(f.val Tu t).bind fun v=>lift<|jD nt t dst v
def uG(ops:Array Oper)(g:Nat×Bool)(f:rC gR)(dst:Option Tmp):QF:=fun Tu nt t=>aG (uk ops t g.1) <| @Bool.rec (fun _=>M<|Tr AV) (lift<|jD nt t dst qQ) ((f.val Tu t).bind fun v=>lift<|jD nt t dst v)<|qO ops g t
def Cs(P:Program)(ops:Array Oper)(o:Oper):rC QF:=
 match o.guard with
 |none=>.mk<|te (dY P o.op) o.dst
 |some g=>.mk<|uG ops g (dY P o.op) o.dst
def hU(P:Program)(Tu:aJ)(nt:Nat)(ops:Array Oper)(o:Oper)(t:Tr AV):M<|Tr AV:=(Cs P ops o).val Tu nt t
def jE(P:Program)(Tu:aJ)(nt:Nat)(ops:Array Oper)(l:List Oper):Tr AV->M (Tr AV):= @List.rec Oper (fun _=>Tr AV->M (Tr AV)) (fun t=>M.pure t) (fun o _ ih t=>(hU P Tu nt ops o t).bind ih) l
structure Met where
 i:Nat
 rd:List Nat
 wr:List Nat
 lo:Nat
 hi:Nat
def wh(m:Nat)(l:List Nat):List Nat:= @List.rec Nat (fun _=>List Nat) [] (fun x _ ih=> @Bool.rec (fun _=>List Nat) ih (List.cons x ih) (Tw m x |> not)) l
def below(m:Nat)(l:List Nat):List Nat:= @Bool.rec (fun _=>List Nat) (wh m l) []<|Tx m 0
def alone(i:Nat)(m:M α):M<|α×Met:=fun s=>
 @AS.rec (fun _=>R<|α×Met) (fun h nx mark rd wr=>forced nx fun lo=>
  @R.rec α (fun _=>R<|α×Met) .bad (fun a s1=>
   @AS.rec (fun _=>R<|α×Met) (fun h1 qz _ gL oS=>forced qz fun hi=>.ok (a,⟨i,below lo gL,below lo oS,lo,hi⟩) ⟨h1,hi,mark,below mark gL++rd,below mark oS++wr⟩) s1)
   (m ⟨h,lo,lo,[],[]⟩)) s
def nL(P:Program)(Tu:aJ)(nt:Nat)(ops:Array Oper):List Oper->Nat->Tr AV->M (Tr AV×List Met)
 |[],_,t=>M.pure (t,[])
 |o::l,i,t=>(alone i<|hU P Tu nt ops o t).bind fun x=>(nL P Tu nt ops l (i+1) x.1).bind fun y=>M.pure (y.1,x.2::y.2)
def CE(n:Nat):List Nat->Bool
 |[]=>false
 |x::l=>match Tx x n with
  |true=>true
  |false=>CE n l
def meets:List Nat->List Nat->Bool
 |[],_=>false
 |x::l,m=>match CE x m with
  |true=>true
  |false=>meets l m
def Aj(lo hi:Nat):List Nat->Bool
 |[]=>false
 |x::l=>match Tw lo x&&Tv x hi with
  |true=>true
  |false=>Aj lo hi l
def uo(x y:Met):Bool:= !(meets x.wr y.rd)&&(!(Aj x.lo x.hi y.rd))
def uq(x:Met):Bool:=match x.wr with
 |[]=>Tw x.hi x.lo
 |_=>false
def tU(b:Array Nat)(x:Met):List Met->Bool
 |[]=>true
 |y::l=>match Tx x.i y.i||(uo x y|| !loose b x.i y.i) with
  |true=>tU b x l
  |false=>false
def qU(b:Array Nat)(all:List Met):List Met->Bool
 |[]=>true
 |x::l=>match uq x||tU b x all with
  |true=>qU b all l
  |false=>false
def qM(P:Program)(Tu:aJ)(nt:Nat)(ops:Array Oper)(t:Tr AV):M<|Tr AV:=(nL P Tu nt ops ops.toList 0 t).bind fun x=>aG (qU (T1 ops) x.2 x.2) <| M.pure x.1
inductive bw where
 |go (fr:AF)
 |leave (fr:AF) (jump:Option Code)
def getLoop(l:Nat):M ah:=(bA l).bind fun o=>match o with
 | .loop a b c d e f g h i=>M.pure<|.loop a b c d e f g h i
 |_=>fail
abbrev pk:=aJ->FuncId->Tr AV->Nat->List Nat->Option Nat->List Item->M bw
def rh:pk:=fun _ fn t nt d r k=>M.pure<|.go ⟨fn,t,nt,k,d,r⟩
def oo(l:List Item):pk:=fun _ fn t nt d r k=>M.pure<|.go ⟨fn,t,nt,l++k,d,r⟩
def Ln(c:Operand)(a b:Code):pk:=fun _ fn t nt d r k=>aB (aF t c) fun v=>aB (ym v) fun v=>M.pure<|.go ⟨fn,t,nt,.code (@Bool.rec (fun _=>Code) b a v)::k,d,r⟩
def EN(id:Nat):pk:=fun _ fn t nt d r k=>match exitTo id k with
 |some k'=>M.pure<|.go ⟨fn,t,nt,k',d,r⟩
 |none=>M.pure<|.leave ⟨fn,t,nt,.code (.exit id)::k,d,r⟩<|some<|.exit id
def EO(l:Nat):pk:=fun _ fn t nt d r k=>match gotoIn l k with
 |some k'=>M.pure<|.go ⟨fn,t,nt,k',d,r⟩
 |none=>M.pure<|.leave ⟨fn,t,nt,.code (.goto l)::k,d,r⟩<|some<|.goto l
def YO:pk:=fun _ fn t nt d r k=>M.pure<|.leave ⟨fn,t,nt,.code .ret::k,d,r⟩<|some .ret
def J7(P:Program)(ops:Array Oper):pk:=fun Tu fn t nt d r k=>(jE P Tu nt ops ops.toList t).bind fun t=>M.pure<|.go ⟨fn,t,nt,k,d,r⟩
def JG(P:Program)(ops:Array Oper):pk:=fun Tu fn t nt d r k=>(qM P Tu nt ops t).bind fun t=>M.pure<|.go ⟨fn,t,nt,k,d,r⟩
def aff:LoopState->Bool
 | .busy=>false
 |_=>true
def mj(l:Nat):M<|Option Code:=(getLoop l).bind fun o=>match o with
 | .loop st bU fn t nt ps a b dd=>aG (aff st) <| (bS l<|some<|.loop .exhausted bU fn t nt ps a b dd).bind fun _=>M.pure bU
 |_=>fail
def andThen(p:Option Code)(k:List Item):List Item:=
 match p with
 |none=>k
 |some c=>.code c::k
def wt(f:Operand)(params:List Tmp)(assign body:Code):pk:=fun Tu fn t nt d r k=>
 match r with
 |none=>
  (gQ .defs).bind fun df=>(gQ<|.loop .ready none fn t nt params assign body df).bind fun l=>
  aB (aF t f) fun g=>(nK Tu g [.yield l]).bind fun _=>(mj l).bind fun p=>
  M.pure (.go ⟨fn,t,nt,andThen p k,df::d,r⟩)
 |some l0=>(getLoop l0).bind fun o=>match o with
  | .loop _ _ _ _ _ _ _ _ df=>
   (gQ<|.loop .ready none fn t nt params assign body df).bind fun l=>
   aB (aF t f) fun g=>(nK Tu g [.yield l]).bind fun _=>(mj l).bind fun p=>
   M.pure (.go ⟨fn,t,nt,andThen p k,d,r⟩)
  |_=>fail
def Aa:pk:=fun _ fn t nt d r k=>
 match r with
 |none=>fail
 |some l=>(getLoop l).bind fun o=>match o with
  | .loop .ready bU fn1 t1 nt1 ps a b df=>(bS l<|some<|.loop .busy bU fn1 t1 nt1 ps a b df).bind fun _=>M.pure<|.go ⟨fn,t,nt,k,d,r⟩
  |_=>fail
def QG:pk:=fun _ _ _ _ _ _ _=>fail
def Yi(P:Program)(c:Code):rC pk:=
 match c with
 | .skip=>.mk rh
 | .label _=>.mk rh
 | .seq a b=>.mk<|oo [.code a,.code b]
 | .cond c a b=>.mk<|Ln c a b
 | .block id b=>.mk<|oo [.code b,.inBlock id]
 | .loop b=>.mk<|oo [.code b,.inLoop b]
 | .scope b=>.mk<|oo [.code b,.inScope b]
 | .exit id=>.mk<|EN id
 | .goto l=>.mk<|EO l
 | .ret=>.mk YO
 | .region _ ops false=>.mk<|J7 P ops
 | .region _ ops true=>.mk<|JG P ops
 | .rangeFunc f params a b=>.mk<|wt f params.toList a b
 | .refuse _=>.mk QG
def wK(P:Program)(it:Item):rC pk:=
 match it with
 | .code c=>Yi P c
 | .inBlock _=>.mk rh
 | .inScope _=>.mk rh
 | .inLoop b=>.mk<|oo [.code b,.inLoop b]
 | .beginRound=>.mk Aa
 |_=>.mk QG
def jB(P:Program)(Tu:aJ)(fr:AF):M bw:= @AF.rec (fun _=>M bw) (fun fn t nt todo d r=> @List.rec Item (fun _=>M bw) (M.pure<|.leave ⟨fn,t,nt,[],d,r⟩ none) (fun it k _=>(wK P it).val Tu fn t nt d r k) todo) fr
def oq(P:Program)(Tu:aJ)(n:Nat):AF->M bw:= @Nat.rec (fun _=>AF->M bw) (jB P Tu) (fun _ ih fr=>(ih fr).bind fun x=> @bw.rec (fun _=>M bw) ih (fun fr j=>M.pure<|.leave fr j) x) n
def qV(P:Program)(Tu:aJ)(n:Nat):Nat->AF->M bw:= @Nat.rec (fun _=>Nat->AF->M bw) (fun _ _=>fail) (fun _ ih k fr=>(oq P Tu k fr).bind fun x=> @bw.rec (fun _=>M bw) (fun fr=>ih (Nat.succ k) fr) (fun fr j=>M.pure<|.leave fr j) x) n
def BM(P:Program)(t:Tr AV):ResultVar->M AV
  | .tmp i=>lift<|t.get i
  | .cell a ty=>do
    let a ←lift (match t.get a with
      |some x=>addrOf x
      |none=>none)
    loadVar P ty a.1 a.2
def tW(P:Program)(t:Tr AV):List ResultVar->M (List AV)
  |[]=>pure []
  | r::l=>do
    let v ←BM P t r
    let vs ←tW P t l
    pure (v::vs)
def rV:List Nat->M Unit
  |[]=>pure ()
  | d ::l=>do
    match ←bA d with
    | .defs=>do
      bS d none
      rV l
    |_=>fail
def dZ(l:List AV):Tr AV:=Tr.fill l 0 .nil
def jN:List Tmp->List AV->Tr AV->Tr AV
 |p::ps,v::vs,t=>jN ps vs<|t.put p<|some v
 |_,_,t=>t
def BN(fr:AF):Option<|Operand×Oper×Array Oper×List Oper×List Item:=
 match fr.todo with
 | .code (.region _ ops false)::k=>match ops.toList with
  |o::rest=>match o.guard,o.op with
   |none,.next it false=>some (it,o,ops,rest,k)
   |_,_=>none
  |[]=>none
 |_=>none
def yF:List α->List (α×List α)
 |[]=>[]
 |x::l=>(x,l)::(yF l).map fun(y,r)=>(y,x::r)
def mapOf(exact:Bool)(es:List<|AV×AV):ah:=
 match exact with
 |true=>.map es es.length
 |false=>.lN es
def oi(P:Program)(Tu:aJ)(fr:AF)(n:Nat)(ob:ah)(o:Oper)(ops:Array Oper)(rest:List Oper)(k:List Item)(v:AV):M AF:=do
 bS n (some ob)
 let t ←lift (jD fr.nt fr.tmps o.dst v);let t ←jE P Tu fr.nt ops rest t
 pure {fr with tmps:=t,todo:=k}
def og(P:Program)(Tu:aJ)(fr:AF)(n m:Nat)(es:List<|AV×AV)(exact:Bool)(o:Oper)(ops:Array Oper)(rest:List Oper)(k:List Item):M AF:=do
 bS n none
 bS m (some<|mapOf exact es)
 let t ←lift (jD fr.nt fr.tmps o.dst<|.tuple [.bool false]);let t ←jE P Tu fr.nt ops rest t
 pure {fr with tmps:=t,todo:=k}
def sb(fr:AF)(it:Operand):M<|Nat×ah:=do
  match ←lift (aF fr.tmps it) with
  | .ptr (some (n,0))=>do
    let o ←bA n
    pure (n,o)
  |_=>fail
def finish(P:Program)(rs:List ResultVar)(fr:AF)(j:Option Code):M AV:=do
 qm (match j with|none|some .ret=>true|_=>false)
 rV fr.defers
 let vs ←tW P fr.tmps rs
 match vs with
 |[v]=>pure v
 |_=>pure<|.tuple vs
def depth:Nat:=24
def oj(P:Program)(Tu:aJ):Nat->AF->M bw
 |0,_=>fail
 |f+1,fr=>match BN fr with
  |some (it,o,ops,rest,k)=>(sb fr it).bind fun x=>match x with
   |(n,.iter m es ex [] _)=>(og P Tu fr n m es ex o ops rest k).bind fun fr=>oj P Tu f fr
   |(n,.iter m es ex [y] _)=>(oi P Tu fr n (.iter m es ex []<|some y) o ops rest k<|.tuple [.bool true,y.1,y.2]).bind fun fr=>oj P Tu f fr
   |_=>fail
  |none=>(jB P Tu fr).bind fun x=>match x with
   | .go fr=>oj P Tu f fr
   | .leave fr j=>M.pure<|.leave fr j
def AE(P:Program)(Tu:aJ)(w:Nat)(fr:AF):M bw:=match Tx w 1 with
 |true=>oj P Tu 100000 fr
 |false=>qV P Tu depth 2 fr
def EP(P:Program)(w f ntmps:Nat)(rs:List ResultVar)(body:Code)(Tu:aJ)(args:List AV):M AV:=
 aG (Tw (max ntmps args.length) top) <|
 (AE P Tu w ⟨f,dZ args,max ntmps args.length,[.code body],[],none⟩).bind fun st=> @bw.rec (fun _=>M AV) (fun _=>fail) (fun fr j=>finish P rs fr j) st
def Ir(P:Program)(kH:FuncId->Nat)(f:FuncId):rC<|aJ->List AV->M AV:=
 match P.funcs[f]? with
 |none=>.mk fun _ _=>fail
 |some fn=>match fn.body with
  |none=>.mk fun _ _=>fail
  |some body=>match fn.name == "runtime.NumGoroutine" with
   |true=>.mk fun _ _=>fail
   |false=>.mk<|EP P (kH f) f fn.ntmps fn.results.toList body
def endRound(l:Nat)(j:Option Code):M AV:=(getLoop l).bind fun o=>match o with
 | .loop _ _ fn t nt ps a b d=>(bS l<|some<|.loop (match j with|none=>.ready|some _=>.done) j fn t nt ps a b d).bind fun _=>M.pure<|.bool j.isNone
 |_=>fail
def BO(P:Program)(Tu:aJ)(l:Nat)(args:List AV):M AV:=(getLoop l).bind fun o=>match o with
 | .loop _ _ fn t nt ps a b _=>
  aG (and (Tx args.length ps.length)<|ps.all fun p=>Tv p nt) <|
  (qV P Tu depth 2 ⟨fn,jN ps args t,nt,[.code a,.beginRound,.code b],[],some l⟩).bind fun st=> @bw.rec (fun _=>M AV) (fun _=>fail) (fun _ j=>endRound l j) st
 |_=>fail
def AG(P:Program)(kH:FuncId->Nat)(n:Nat):aJ:= @Nat.rec (fun _=>aJ) (fun _ _=>fail) (fun _ ih t args=> @Ip.rec (fun _=>M AV) (fun f=>(Ir P kH f).val ih args) (fun l=>BO P ih l args) (fun _ _ _=>fail) t) n
end
end
section
variable {s s1:AS} {α β:Type} {n:Nat} {f:α->M β} {o:ah} {b:β} {a:α}
structure QH (A:Nat->Prop) (m0:Nat) (s t:AS):Prop where
 nx:s.nx=t.nx
 mark:s.mark=t.mark
 low:m0<=s.mark
 is:∀k,k<s.nx->(A k\/m0<=k)->s.h.get k=t.h.get k
structure bH (s:AS):Prop where
 mark:s.mark<=s.nx
 nx:s.nx<=top
structure ME (s s1:AS) (dr dw:List Nat):Prop where
 rd:s1.rd=dr++s.rd
 wr:s1.wr=dw++s.wr
 nx:s.nx<=s1.nx
 top:s1.nx<=top
 mark:s1.mark=s.mark
 same:∀k,k<s.mark->k ∉ dw->s1.h.get k=s.h.get k
 sub:∀k∈dw,k∈dr
 tf:∀k,s1.nx<=k->k<Rn.top->s1.h.get k=s.h.get k
theorem ME.cG{dr dw:List Nat}(f:bH s)(d:ME s s1 dr dw):bH s1:=⟨by rw[d.mark];exact TO f.mark d.nx,d.top⟩
structure YP (A:Nat->Prop) (m0:Nat) (s1 t t1:AS) (dr dw:List Nat):Prop where
 agree:QH A m0 s1 t1
 rd:t1.rd=dr++t.rd
 wr:t1.wr=dw++t.wr
 same:∀k,k<m0->k ∉ dw->t1.h.get k=t.h.get k
 tf:∀k,s1.nx<=k->k<Rn.top->t1.h.get k=t.h.get k
def Tt(m:M α):Prop:=∀s v s1,bH s->m s= .ok v s1->∃dr dw,ME s s1 dr dw/\∀A m0 t,QH A m0 s t->(∀k∈dr,k<m0->A k)->∃t1,m t= .ok v t1/\YP A m0 s1 t t1 dr dw
theorem M.bO{m:M α}(h:m s= .ok a s1):(m.bind f) s=f a s1:=by unfold M.bind;rw[h]
theorem M.adV{m:M α}(h:m s= .bad):(m.bind f) s= .bad:=by unfold M.bind;rw[h]
theorem M.aQ{m:M α}{s2:AS}(h:(m.bind f) s= .ok b s2):∃a s1,m s= .ok a s1/\f a s1= .ok b s2:=by
 cases e:m s with
 |bad=>rw[M.adV e] at h;cases h
 |ok a s1=>rw[M.bO e] at h;exact⟨a,s1,rfl,h⟩
theorem bind_eq(m:M α)(f:α->M β):(m >>= f)=m.bind f:=rfl
theorem afg(a:α):(pure a:M α)=M.pure a:=rfl
theorem bW(a:α)(f:α->M β):aB (some a) f=f a:=rfl
theorem dR(m:M β):aG true m=m:=rfl
theorem bz{o:Option α}(h:aB o f s= .ok b s1):∃a,o=some a/\f a s= .ok b s1:=by
 cases o with
 |none=>cases h
 |some a=>exact⟨a,rfl,h⟩
theorem dv{c:Bool}{m:M β}(h:aG c m s= .ok b s1):c=true/\m s= .ok b s1:=by
 cases c with
 |false=>cases h
 |true=>exact⟨rfl,h⟩
theorem bG{b:α}(h:M.pure a s= .ok b s1):b=a/\s1=s:=by cases h;exact⟨rfl,rfl⟩
theorem ij{o:Option α}{b:α}(h:lift o s= .ok b s1):o=some b/\s1=s:=by
 cases o with
 |none=>cases h
 |some a=>cases h;exact⟨rfl,rfl⟩
theorem Tt.pure(a:α):Tt<|M.pure a:=by intro s v s1 fi h;obtain⟨rfl,rfl⟩:=bG h;exact⟨[],[],⟨rfl,rfl,Tz _,fi.nx,rfl,fun _ _ _=>rfl,fun _ h=>h,fun _ _ _=>rfl⟩,fun A m0 t ag _=>⟨t,rfl,ag,rfl,rfl,fun _ _ _=>rfl,fun _ _ _=>rfl⟩⟩
theorem Tt.fail{α:Type}:Tt (fail:M α):=by intro s v s1 _ h;cases h
theorem Tt.aB{α β:Type}{o:Option α}{f:α->M β}(h:∀a,o=some a->Tt (f a)):Tt<|aB o f:=by
 cases o with
 |none=>exact Tt.fail
 |some a=>exact h a rfl
theorem Tt.aG{β:Type}{c:Bool}{m:M β}(h:c=true->Tt m):Tt<|aG c m:=by
 cases c with
 |false=>exact Tt.fail
 |true=>exact h rfl
theorem Tt.lift{α:Type}(o:Option α):Tt<|lift o:=by
 cases o with
 |none=>exact Tt.fail
 |some a=>exact Tt.pure a
theorem Tt.qm(b:Bool):Tt<|qm b:=by
 cases b with
 |false=>exact Tt.fail
 |true=>exact Tt.pure ()
theorem Tt.bind{m:M α}(hm:Tt m)(hf:∀a,Tt<|f a):Tt<|m.bind f:=by
 intro s v s2 fi h;let⟨a,s1,h1,h2⟩:=M.aQ h;let⟨dr,dw,d,x⟩:=hm s a s1 fi h1;let⟨dr',RV,d',x'⟩:=hf a s1 v s2 (d.cG fi) h2;refine⟨dr'++dr,RV++dw,⟨by rw[d'.rd,d.rd,Um],by rw[d'.wr,d.wr,Um],TO d.nx d'.nx,d'.top,d'.mark.trans d.mark,?_,?_,?_⟩,?_⟩
 ·intro k hk hn;have C4:k ∉ RV:=fun e=>hn<|TP.2<|.inl e;have vp:k ∉ dw:=fun e=>hn<|TP.2<|.inr e;exact(d'.same k (by rw[d.mark];exact hk) C4).trans<|d.same k hk vp
 ·intro k hk;rcases TP.1 hk with e|e
  ·exact TP.2<|.inl<|d'.sub k e
  ·exact TP.2<|.inr<|d.sub k e
 ·intro k hk ht;exact(d'.tf k hk ht).trans<|d.tf k (TO d'.nx hk) ht
 ·intro A m0 t ag hA;let⟨t1,e1,al⟩:=x A m0 t ag fun k hk ct=>hA k (TP.2<|.inr hk) ct;let⟨t2,e2,It⟩:=x' A m0 t1 al.agree fun k hk ct=>hA k (TP.2<|.inl hk) ct;refine⟨t2,by rw[M.bO e1];exact e2,It.agree,by rw[It.rd,al.rd,Um],by rw[It.wr,al.wr,Um],?_,?_⟩
  ·intro k hk hn;have C4:k ∉ RV:=fun e=>hn<|TP.2<|.inl e;have vp:k ∉ dw:=fun e=>hn<|TP.2<|.inr e;exact(It.same k hk C4).trans<|al.same k hk vp
  ·intro k hk ht;exact(It.tf k hk ht).trans<|al.tf k (TO d'.nx hk) ht
theorem blt_eq(n m:Nat):(Tv n m=true)=(n<m):=by show(Tw (n+1) m=true)=_;rw[VH];rfl
theorem zW(a b:α)(n m:Nat): @Bool.rec (fun _=>α) a b (Tv n m)=if n<m then b else a:=by
 rw[OK];by_cases h:n<m
 ·rw[if_pos h,if_pos (by rw[blt_eq];exact h)]
 ·rw[if_neg h,if_neg (by rw[blt_eq];exact h)]
theorem Pr(h:bA n s= .ok o s1):
 n<s.nx/\s.h.get n=some o/\s1=if n<s.mark then{s with rd:=n::s.rd} else s:=by
 let⟨hh,nx,mark,rd,wr⟩:=s;cases hb:Tv n nx with
 |false=>
  have:bA n ⟨hh,nx,mark,rd,wr⟩= .bad:=by show @Bool.rec (fun _=>R ah) .bad _ (Tv n nx)=_;rw[hb]
  rw[this] at h;cases h
 |true=>
  cases hg:hh.get n with
  |none=>
   have:bA n ⟨hh,nx,mark,rd,wr⟩= .bad:=by show @Bool.rec (fun _=>R ah) .bad (@Option.rec ah (fun _=>R ah) .bad _<|hh.get n) (Tv n nx)=_;rw[hb,hg]
   rw[this] at h;cases h
  |some o'=>
   have:bA n ⟨hh,nx,mark,rd,wr⟩= @Bool.rec (fun _=>R ah) (.ok o' ⟨hh,nx,mark,rd,wr⟩) (.ok o' ⟨hh,nx,mark,n::rd,wr⟩) (Tv n mark):=by show @Bool.rec (fun _=>R ah) .bad (@Option.rec ah (fun _=>R ah) .bad _<|hh.get n) (Tv n nx)=_;rw[hb,hg]
   rw[this] at h;have ct:n<nx:=by rw[←blt_eq];exact hb
   cases hm:Tv n mark with
   |false=>
    rw[hm] at h;cases h;have:¬n<mark:=by rw[←blt_eq,hm];simp
    exact⟨ct,by first|exact hg|rfl,by simp[this]⟩
   |true=>
    rw[hm] at h;cases h;have:n<mark:=by rw[←blt_eq];exact hm
    exact⟨ct,by first|exact hg|rfl,by simp[this]⟩
theorem XA(h1:n<s.nx)(h2:s.h.get n=some o):
 bA n s= .ok o (if n<s.mark then{s with rd:=n::s.rd} else s):=by
 let⟨hh,nx,mark,rd,wr⟩:=s;have hb:Tv n nx=true:=by rw[blt_eq];exact h1
 have hg:hh.get n=some o:=h2;show @Bool.rec (fun _=>R ah) .bad (@Option.rec ah (fun _=>R ah) .bad (fun o=> @Bool.rec (fun _=>R ah) (.ok o ⟨hh,nx,mark,rd,wr⟩) (.ok o ⟨hh,nx,mark,n::rd,wr⟩)<|Tv n mark)<|hh.get n) (Tv n nx)=_;rw[hb,hg];show @Bool.rec (fun _=>R ah) _ _ (Tv n mark)=_;rw[zW];by_cases e:n<mark<;>simp[e]
theorem ant{o:Option ah}{u:Unit}(h:bS n o s= .ok u s1):
 n<s.nx/\n<top/\(∃p,s.h.get n=some p/\p.dA=false)/\s1=if n<s.mark then{s with h:=s.h.put n o,rd:=n::s.rd,wr:=n::s.wr} else{s with h:=s.h.put n o}:=by
 let⟨hh,nx,mark,rd,wr⟩:=s;have e:bS n o ⟨hh,nx,mark,rd,wr⟩= @Bool.rec (fun _=>R Unit) .bad
  (@Option.rec ah (fun _=>R Unit) .bad
   (fun p=> @Bool.rec (fun _=>R Unit)
    (@Bool.rec (fun _=>R Unit) (.ok () ⟨hh.put n o,nx,mark,rd,wr⟩) (.ok () ⟨hh.put n o,nx,mark,n::rd,n::wr⟩)<|Tv n mark)
    .bad p.dA)
   (hh.get n))
  (and (Tv n nx)<|Tv n top):=rfl
 rw[e] at h;cases hb:and (Tv n nx) (Tv n top) with
 |false=>rw[hb] at h;cases h
 |true=>
  rw[hb] at h;have gS:=UI.1 hb;rw[blt_eq,blt_eq] at gS;cases hg:hh.get n with
  |none=>rw[hg] at h;cases h
  |some p=>
   rw[hg] at h;cases hr:p.dA with
   |true=>
    have h': @Bool.rec (fun _=>R Unit)
     (@Bool.rec (fun _=>R Unit) (.ok () ⟨hh.put n o,nx,mark,rd,wr⟩) (.ok () ⟨hh.put n o,nx,mark,n::rd,n::wr⟩)<|Tv n mark)
     .bad p.dA= .ok u s1:=h
    rw[hr] at h';cases h'
   |false=>
    have h': @Bool.rec (fun _=>R Unit)
     (@Bool.rec (fun _=>R Unit) (.ok () ⟨hh.put n o,nx,mark,rd,wr⟩) (.ok () ⟨hh.put n o,nx,mark,n::rd,n::wr⟩)<|Tv n mark)
     .bad p.dA= .ok u s1:=h
    rw[hr] at h';refine⟨gS.1,gS.2,⟨p,by first|exact hg|rfl,hr⟩,?_⟩;have vq: @Bool.rec (fun _=>R Unit) (.ok () ⟨hh.put n o,nx,mark,rd,wr⟩) (.ok () ⟨hh.put n o,nx,mark,n::rd,n::wr⟩) (Tv n mark)= .ok u s1:=h';rw[zW] at vq;by_cases e:n<mark
    ·rw[if_pos e] at vq;injection vq with _ h3;simp[e, ←h3]
    ·rw[if_neg e] at vq;injection vq with _ h3;simp[e, ←h3]
theorem P2{o:Option ah}{p:ah}(h1:n<s.nx)(h2:n<top)(h3:s.h.get n=some p)(h4:p.dA=false):
 bS n o s= .ok () (if n<s.mark then{s with h:=s.h.put n o,rd:=n::s.rd,wr:=n::s.wr} else{s with h:=s.h.put n o}):=by
 let⟨hh,nx,mark,rd,wr⟩:=s;have e:bS n o ⟨hh,nx,mark,rd,wr⟩= @Bool.rec (fun _=>R Unit) .bad
  (@Option.rec ah (fun _=>R Unit) .bad
   (fun p=> @Bool.rec (fun _=>R Unit)
    (@Bool.rec (fun _=>R Unit) (.ok () ⟨hh.put n o,nx,mark,rd,wr⟩) (.ok () ⟨hh.put n o,nx,mark,n::rd,n::wr⟩)<|Tv n mark)
    .bad p.dA)
   (hh.get n))
  (and (Tv n nx)<|Tv n top):=rfl
 have hb:and (Tv n nx) (Tv n top)=true:=UI.2 ⟨by rw[blt_eq];exact h1,by rw[blt_eq];exact h2⟩;have hg:hh.get n=some p:=h3;rw[e,hb,hg];show @Bool.rec (fun _=>R Unit) (@Bool.rec (fun _=>R Unit) (.ok () ⟨hh.put n o,nx,mark,rd,wr⟩) (.ok () ⟨hh.put n o,nx,mark,n::rd,n::wr⟩)<|Tv n mark) .bad p.dA=_;rw[h4];show @Bool.rec (fun _=>R Unit) (.ok () ⟨hh.put n o,nx,mark,rd,wr⟩) (.ok () ⟨hh.put n o,nx,mark,n::rd,n::wr⟩) (Tv n mark)=_;rw[zW];by_cases e:n<mark<;>simp[e]
theorem v8(h:gQ o s= .ok n s1):s.nx<top/\n=s.nx/\s1={s with h:=s.h.put s.nx<|some o,nx:=s.nx+1}:=by
 let⟨hh,nx,mark,rd,wr⟩:=s;have e:gQ o ⟨hh,nx,mark,rd,wr⟩= @Bool.rec (fun _=>R Nat) .bad (forced nx fun m=>.ok m ⟨hh.put m<|some o,m+1,mark,rd,wr⟩) (Tv nx top):=rfl;rw[e,zO] at h;cases hb:Tv nx top with
 |false=>rw[hb] at h;cases h
 |true=>rw[hb] at h;cases h;exact⟨by rw[←blt_eq];exact hb,rfl,rfl⟩
theorem Ps(h:s.nx<top):gQ o s= .ok s.nx {s with h:=s.h.put s.nx<|some o,nx:=s.nx+1}:=by
 let⟨hh,nx,mark,rd,wr⟩:=s;have e:gQ o ⟨hh,nx,mark,rd,wr⟩= @Bool.rec (fun _=>R Nat) .bad (forced nx fun m=>.ok m ⟨hh.put m<|some o,m+1,mark,rd,wr⟩) (Tv nx top):=rfl;have hb:Tv nx top=true:=by rw[blt_eq];exact h
 rw[e,zO,hb]
theorem Tt.bA(n:Nat):Tt<|bA n:=by
 intro s v s1 fi h;obtain⟨h1,h2,rfl⟩:=Pr h;by_cases e:n<s.mark
 ·rw[if_pos e];refine⟨[n],[],⟨rfl,rfl,Tz _,fi.nx,rfl,fun _ _ _=>rfl,fun _ h=>(by cases h),fun _ _ _=>rfl⟩,fun A m0 t ag hA=>?_⟩;have hq:A n\/m0<=n:=by
   by_cases q:n<m0
   ·exact .inl<|hA n j0 q
   ·exact .inr ak
  have hg:=ag.is n h1 hq;have hr:=XA (o:=v) (s:=t) (n:=n) FD FE;rw[←ag.mark,if_pos e] at hr;exact⟨_,hr,⟨ag.nx,by first|exact ag.mark|rfl,ag.low,ag.is⟩,rfl,rfl,fun _ _ _=>rfl,fun _ _ _=>rfl⟩
 ·rw[if_neg e];refine⟨[],[],⟨rfl,rfl,Tz _,fi.nx,rfl,fun _ _ _=>rfl,fun _ h=>(by cases h),fun _ _ _=>rfl⟩,fun A m0 t ag hA=>?_⟩;have hg:=ag.is n h1<|.inr<|TO ag.low ak;have hr:=XA (o:=v) (s:=t) (n:=n) FD FE;rw[←ag.mark,if_neg e] at hr;exact⟨_,hr,ag,rfl,rfl,fun _ _ _=>rfl,fun _ _ _=>rfl⟩
theorem Tt.bS(n:Nat)(o:Option ah):Tt<|bS n o:=by
 intro s v s1 fi h;obtain⟨h1,ht,⟨p,h2,h3⟩,rfl⟩:=ant h;by_cases e:n<s.mark
 ·rw[if_pos e];refine⟨[n],[n],⟨rfl,rfl,Tz _,fi.nx,rfl,fun k hk hn=>?_,fun _ h=>h,fun k hk gM=>?_⟩,fun A m0 t ag hA=>?_⟩
  ·show(s.h.put n o).get k=_;rw[Tr.dy _ _ _ _ ht (by have:=fi.mark;have:=fi.nx;omega),if_neg<|by simpa using hn]
  ·show(s.h.put n o).get k=_;have:s.nx<=k:=hk;rw[Tr.dy _ _ _ _ ht gM,if_neg ak]
  ·have hq:A n\/m0<=n:=by
    by_cases q:n<m0
    ·exact .inl<|hA n j0 q
    ·exact .inr ak
   have hg:=ag.is n h1 hq;have hr:=P2 (o:=o) (s:=t) (n:=n) (p:=p) FD ht FE h3;rw[←ag.mark,if_pos e] at hr;refine⟨_,hr,⟨ag.nx,by first|exact ag.mark|rfl,ag.low,fun k hk hq=>?_⟩,rfl,rfl,fun k hk hn=>?_,fun k hk gM=>?_⟩
   ·show(s.h.put n o).get k=(t.h.put n o).get k;have FF:k<s.nx:=hk;have:=fi.nx;rw[Tr.dy _ _ _ _ ht ak,Tr.dy _ _ _ _ ht ak];by_cases q:k=n
    ·simp[q]
    ·rw[if_neg q,if_neg q];exact ag.is k hk hq
   ·show(t.h.put n o).get k=_;have:=fi.mark;have:=fi.nx;have:=ag.low;rw[Tr.dy _ _ _ _ ht ak,if_neg<|by simpa using hn]
   ·show(t.h.put n o).get k=_;have:s.nx<=k:=hk;rw[Tr.dy _ _ _ _ ht gM,if_neg ak]
 ·rw[if_neg e];refine⟨[],[],⟨rfl,rfl,Tz _,fi.nx,rfl,fun k hk hn=>?_,fun _ h=>h,fun k hk gM=>?_⟩,fun A m0 t ag hA=>?_⟩
  ·show(s.h.put n o).get k=_;have:=fi.mark;have:=fi.nx;rw[Tr.dy _ _ _ _ ht ak,if_neg ak]
  ·show(s.h.put n o).get k=_;have:s.nx<=k:=hk;rw[Tr.dy _ _ _ _ ht gM,if_neg ak]
  ·have hg:=ag.is n h1<|.inr<|TO ag.low ak;have hr:=P2 (o:=o) (s:=t) (n:=n) (p:=p) FD ht FE h3;rw[←ag.mark,if_neg e] at hr;refine⟨_,hr,⟨ag.nx,by first|exact ag.mark|rfl,ag.low,fun k hk hq=>?_⟩,rfl,rfl,fun k hk hn=>?_,fun k hk gM=>?_⟩
   ·show(s.h.put n o).get k=(t.h.put n o).get k;have FF:k<s.nx:=hk;have:=fi.nx;rw[Tr.dy _ _ _ _ ht ak,Tr.dy _ _ _ _ ht ak];by_cases q:k=n
    ·simp[q]
    ·rw[if_neg q,if_neg q];exact ag.is k hk hq
   ·show(t.h.put n o).get k=_;have:=fi.mark;have:=fi.nx;have:=ag.low;rw[Tr.dy _ _ _ _ ht ak,if_neg ak]
   ·show(t.h.put n o).get k=_;have:s.nx<=k:=hk;rw[Tr.dy _ _ _ _ ht gM,if_neg ak]
theorem Tt.gQ(o:ah):Tt<|gQ o:=by
 intro s v s1 fi h;obtain⟨ht,rfl,rfl⟩:=v8 h;refine⟨[],[],⟨rfl,rfl,Nat.le_succ _,ht,rfl,fun k hk hn=>?_,fun _ h=>h,fun k hk gM=>?_⟩,fun A m0 t ag hA=>?_⟩
 ·show(s.h.put s.nx<|some o).get k=_;have:=fi.mark;have:=fi.nx;rw[Tr.dy _ _ _ _ ht ak,if_neg ak]
 ·show(s.h.put s.nx<|some o).get k=_;have:s.nx+1<=k:=hk;rw[Tr.dy _ _ _ _ ht gM,if_neg ak]
 ·have hr:=Ps (o:=o) (s:=t) (by rw[←ag.nx];exact ht);rw[←ag.nx] at hr;refine⟨_,hr,⟨rfl,ag.mark,ag.low,fun k hk hq=>?_⟩,rfl,rfl,fun k hk hn=>?_,fun k hk gM=>?_⟩
  ·show(s.h.put s.nx<|some o).get k=(t.h.put s.nx<|some o).get k;have FF:k<s.nx+1:=hk;rw[Tr.dy _ _ _ _ ht ak,Tr.dy _ _ _ _ ht ak];by_cases q:k=s.nx
   ·simp[q]
   ·rw[if_neg q,if_neg q];exact ag.is k ak hq
  ·show(t.h.put s.nx<|some o).get k=_;have:=fi.mark;have:=fi.nx;have:=ag.low;rw[Tr.dy _ _ _ _ ht ak,if_neg ak]
  ·show(t.h.put s.nx<|some o).get k=_;have:s.nx+1<=k:=hk;rw[Tr.dy _ _ _ _ ht gM,if_neg ak]
end
theorem Tt.jz(n off k:Nat):Tt<|jz n off k:=by
 cases k with
 |zero=>exact Tt.pure _
 |succ k=>
  unfold Rn.jz
  repeat' (first
  |exact Tt.pure _|exact Tt.fail|exact Tt.lift _|exact Tt.bA _
  |refine Tt.aB (fun _ _=>?_)|refine Tt.aG (fun _=>?_)|refine Tt.bind ?_ (fun _=>?_)
  |split)
theorem Tt.rQ(n off:Nat)(l:List AV):Tt<|rQ n off l:=by
 unfold Rn.rQ
 repeat' (first
  |exact Tt.pure _|exact Tt.fail|exact Tt.bA _|exact Tt.bS _ _
  |exact Tt.fail
  |refine Tt.aB (fun _ _=>?_)|refine Tt.aG (fun _=>?_)|refine Tt.bind ?_ (fun _=>?_)
  |split)
theorem Tt.newRow(l:List AV):Tt<|newRow l:=by
 unfold Rn.newRow
 repeat' (first
  |exact Tt.pure _|exact Tt.fail|exact Tt.gQ _
  |exact Tt.fail
  |refine Tt.aB (fun _ _=>?_)|refine Tt.aG (fun _=>?_)|refine Tt.bind ?_ (fun _=>?_)
  |split)
theorem Tt.loadVar(P:Program)(t:TypeId)(n off:Nat):Tt<|loadVar P t n off:=by
 unfold Rn.loadVar
 repeat' (first
  |exact Tt.pure _|exact Tt.fail|exact Tt.lift _
  |exact Tt.fail|exact Tt.jz _ _ _
  |refine Tt.aB (fun _ _=>?_)|refine Tt.aG (fun _=>?_)|refine Tt.bind ?_ (fun _=>?_)
  |split)
theorem Tt.yd(P:Program)(t:TypeId)(n off:Nat):Tt<|yd P t n off:=by
 unfold Rn.yd
 repeat' (first
  |exact Tt.pure _|exact Tt.fail|exact Tt.lift _|exact Tt.bA _
  |exact Tt.fail
  |refine Tt.aB (fun _ _=>?_)|refine Tt.aG (fun _=>?_)|refine Tt.bind ?_ (fun _=>?_)
  |split)
theorem Tt.wq(P:Program)(t:TypeId){Tu:aJ}(bQ:∀t a,Tt<|Tu t a)(n o:Nat):Tt<|wq P t Tu n o:=by
 unfold Rn.wq
 repeat' (first
  |exact Tt.pure _|exact Tt.fail|exact Tt.lift _
  |exact bQ _ _
  |refine Tt.aB (fun _ _=>?_)|refine Tt.aG (fun _=>?_)|refine Tt.bind ?_ (fun _=>?_)
  |split)
theorem Tt.loadAt(P:Program)(t:TypeId){Tu:aJ}(bQ:∀t a,Tt<|Tu t a)(a:AV):Tt<|loadAt P t Tu a:=by
 unfold Rn.loadAt
 repeat' (first
  |exact Tt.pure _|exact Tt.fail
  |exact bQ _ _|exact Tt.loadVar _ _ _ _|exact Tt.yd _ _ _ _|exact Tt.wq _ _ bQ _ _
  |refine Tt.aB (fun _ _=>?_)|refine Tt.aG (fun _=>?_)|refine Tt.bind ?_ (fun _=>?_)
  |split)
theorem Tt.storeVar(P:Program)(t:TypeId)(n off:Nat)(v:AV):Tt<|storeVar P t n off v:=by
 unfold Rn.storeVar
 repeat' (first
  |exact Tt.pure _|exact Tt.fail
  |exact Tt.fail|exact Tt.rQ _ _ _
  |refine Tt.aB (fun _ _=>?_)|refine Tt.aG (fun _=>?_)|refine Tt.bind ?_ (fun _=>?_)
  |split)
theorem Tt.buildSlice(P:Program)(t:TypeId)(len:Nat)(parts:List<|Nat×AV):Tt<|buildSlice P t len parts:=by
 unfold Rn.buildSlice
 repeat' (first
  |exact Tt.pure _|exact Tt.fail|exact Tt.lift _|exact Tt.qm _
  |exact Tt.fail|exact Tt.newRow _
  |refine Tt.aB (fun _ _=>?_)|refine Tt.aG (fun _=>?_)|refine Tt.bind ?_ (fun _=>?_)
  |split)
theorem Tt.makeSlice(P:Program)(t:TypeId)(len cap:AV):Tt<|makeSlice P t len cap:=by
 unfold Rn.makeSlice
 repeat' (first
  |exact Tt.pure _|exact Tt.fail|exact Tt.gQ _
  |exact Tt.fail
  |refine Tt.aB (fun _ _=>?_)|refine Tt.aG (fun _=>?_)|refine Tt.bind ?_ (fun _=>?_)
  |split)
theorem Tt.firstCells(size n:Nat)(v:AV):Tt<|firstCells size n v:=by
 unfold Rn.firstCells
 repeat' (first
  |exact Tt.pure _|exact Tt.fail
  |exact Tt.fail|exact Tt.jz _ _ _
  |refine Tt.aB (fun _ _=>?_)|refine Tt.aG (fun _=>?_)|refine Tt.bind ?_ (fun _=>?_)
  |split)
theorem Tt.grown(a b c:Nat)(l m:List AV):Tt<|grown a b c l m:=by
 unfold Rn.grown
 repeat' (first
  |exact Tt.pure _|exact Tt.fail
  |exact Tt.fail|exact Tt.newRow _
  |refine Tt.aB (fun _ _=>?_)|refine Tt.aG (fun _=>?_)|refine Tt.bind ?_ (fun _=>?_)
  |split)
theorem Tt.xU(n off:Nat)(l:List AV):Tt<|xU n off l:=by
 unfold Rn.xU
 repeat' (first
  |exact Tt.pure _|exact Tt.fail|exact Tt.bA _|exact Tt.bS _ _
  |exact Tt.fail
  |refine Tt.aB (fun _ _=>?_)|refine Tt.aG (fun _=>?_)|refine Tt.bind ?_ (fun _=>?_)
  |split)
theorem Tt.rT(size bytes:Nat)(base:Option<|Nat×Nat)(len:Nat)(cap:cx)(n:Nat)(new:List AV):Tt<|rT size bytes base len cap n new:=by
 unfold Rn.rT
 repeat' (first
  |exact Tt.pure _|exact Tt.fail|exact Tt.bA _|exact Tt.bS _ _
  |exact Tt.fail|exact Tt.jz _ _ _|exact Tt.rQ _ _ _|exact Tt.firstCells _ _ _|exact Tt.grown _ _ _ _ _|exact Tt.xU _ _ _
  |refine Tt.aB (fun _ _=>?_)|refine Tt.aG (fun _=>?_)|refine Tt.bind ?_ (fun _=>?_)
  |split)
theorem Tt.pX(P:Program)(ts:Array TypeId)(s x:AV):Tt<|pX P ts s x:=by
 unfold Rn.pX
 repeat' (first
  |exact Tt.pure _|exact Tt.fail
  |exact Tt.fail|exact Tt.firstCells _ _ _|exact Tt.rT _ _ _ _ _ _ _
  |refine Tt.aB (fun _ _=>?_)|refine Tt.aG (fun _=>?_)|refine Tt.bind ?_ (fun _=>?_)
  |split)
theorem Tt.z7(P:Program)(ts:Array TypeId)(s x:AV):Tt<|z7 P ts s x:=by
 unfold Rn.z7
 repeat' (first
  |exact Tt.pure _|exact Tt.fail
  |exact Tt.fail|exact Tt.rQ _ _ _|exact Tt.firstCells _ _ _
  |refine Tt.aB (fun _ _=>?_)|refine Tt.aG (fun _=>?_)|refine Tt.bind ?_ (fun _=>?_)
  |split)
theorem Tt.z8(P:Program)(k:TypeId)(a x:AV):Tt<|z8 P k a x:=by
 unfold Rn.z8
 repeat' (first
  |exact Tt.pure _|exact Tt.fail|exact Tt.bA _
  |exact Tt.fail
  |refine Tt.aB (fun _ _=>?_)|refine Tt.aG (fun _=>?_)|refine Tt.bind ?_ (fun _=>?_)
  |split)
theorem Tt.EM(r:Nat)(a b:AV)(l:List<|AV×AV)(c:Nat)(f:Option<|Nat×AV):Tt<|EM r a b l c f:=by
 unfold Rn.EM
 repeat' (first
  |exact Tt.pure _|exact Tt.fail|exact Tt.bS _ _
  |exact Tt.fail
  |refine Tt.aB (fun _ _=>?_)|refine Tt.aG (fun _=>?_)|refine Tt.bind ?_ (fun _=>?_)
  |split)
theorem Tt.BI(r:Nat)(a b:AV)(l:List<|AV×AV)(f:Option<|Nat×AV):Tt<|BI r a b l f:=by
 unfold Rn.BI
 repeat' (first
  |exact Tt.pure _|exact Tt.fail|exact Tt.bS _ _
  |exact Tt.fail
  |refine Tt.aB (fun _ _=>?_)|refine Tt.aG (fun _=>?_)|refine Tt.bind ?_ (fun _=>?_)
  |split)
theorem Tt.zV(P:Program)(t:TypeId)(x k:AV)(ok:Bool):Tt<|zV P t x k ok:=by
 unfold Rn.zV
 repeat' (first
  |exact Tt.pure _|exact Tt.fail
  |exact Tt.fail|exact Tt.z8 _ _ _ _
  |refine Tt.aB (fun _ _=>?_)|refine Tt.aG (fun _=>?_)|refine Tt.bind ?_ (fun _=>?_)
  |split)
theorem Tt.yo(P:Program)(t:TypeId)(m k v:AV):Tt<|yo P t m k v:=by
 unfold Rn.yo
 repeat' (first
  |exact Tt.pure _|exact Tt.fail|exact Tt.bA _
  |exact Tt.fail|exact Tt.EM _ _ _ _ _ _|exact Tt.BI _ _ _ _ _
  |refine Tt.aB (fun _ _=>?_)|refine Tt.aG (fun _=>?_)|refine Tt.bind ?_ (fun _=>?_)
  |split)
theorem Tt.AD(P:Program)(ts:Array TypeId)(x:AV):Tt<|AD P ts x:=by
 unfold Rn.AD
 repeat' (first
  |exact Tt.pure _|exact Tt.fail|exact Tt.lift _
  |exact Tt.fail|exact Tt.Xz _
  |refine Tt.aB (fun _ _=>?_)|refine Tt.aG (fun _=>?_)|refine Tt.bind ?_ (fun _=>?_)
  |split)
theorem Tt.zR(P:Program)(b:Builtin)(ts:Array TypeId)(l:List AV):Tt<|zR P b ts l:=by
 unfold Rn.zR
 repeat' (first
  |exact Tt.pure _|exact Tt.fail|exact Tt.lift _
  |exact Tt.fail|exact Tt.pX _ _ _ _|exact Tt.z7 _ _ _ _|exact Tt.AD _ _ _|exact Tt.agQ _ _ _
  |refine Tt.aB (fun _ _=>?_)|refine Tt.aG (fun _=>?_)|refine Tt.bind ?_ (fun _=>?_)
  |split)
theorem Tt.BT(P:Program)(a:TypeId)(x:AV):Tt<|BT P a x:=by
 unfold Rn.BT
 repeat' (first
  |exact Tt.pure _|exact Tt.fail|exact Tt.bA _|exact Tt.bS _ _|exact Tt.gQ _
  |exact Tt.fail
  |refine Tt.aB (fun _ _=>?_)|refine Tt.aG (fun _=>?_)|refine Tt.bind ?_ (fun _=>?_)
  |split)
theorem Tt.Ef(x:AV):Tt<|Ef x:=by
 unfold Rn.Ef
 repeat' (first
  |exact Tt.pure _|exact Tt.fail|exact Tt.bA _
  |exact Tt.fail
  |refine Tt.aB (fun _ _=>?_)|refine Tt.aG (fun _=>?_)|refine Tt.bind ?_ (fun _=>?_)
  |split)
theorem Tt.tZ{Tu:aJ}(bQ:∀t a,Tt<|Tu t a)(n o k:Nat):Tt<|tZ Tu n o k:=by
 unfold Rn.tZ
 repeat' (first
  |exact Tt.pure _|exact Tt.fail
  |exact bQ _ _
  |refine Tt.aB (fun _ _=>?_)|refine Tt.aG (fun _=>?_)|refine Tt.bind ?_ (fun _=>?_)
  |split)
theorem Tt.nK{Tu:aJ}(bQ:∀t a,Tt<|Tu t a)(f:AV)(l:List AV):Tt<|nK Tu f l:=by
 unfold Rn.nK
 repeat' (first
  |exact Tt.pure _|exact Tt.fail
  |exact bQ _ _
  |refine Tt.aB (fun _ _=>?_)|refine Tt.aG (fun _=>?_)|refine Tt.bind ?_ (fun _=>?_)
  |split)
theorem Tt.Iq(P:Program){Tu:aJ}(bQ:∀t a,Tt<|Tu t a)(t:Tr AV)(op:Op):Tt<|Iq P Tu t op:=by unfold Rn.Iq Rn.dY;split<;>simp only[rC.val]<;>(first|unfold Rn.wJ|unfold Rn.Cr|unfold Rn.Kv|unfold Rn.CD|unfold Rn.B5|unfold Rn.Bz|unfold Rn.uE|unfold Rn.yp|unfold Rn.BC|unfold Rn.uS|unfold Rn.C3|unfold Rn.BJ|unfold Rn.DP|unfold Rn.BD|unfold Rn.BK|unfold Rn.xS|unfold Rn.uj|unfold Rn.BA|unfold Rn.B6|unfold Rn.qL|unfold Rn.B7|unfold Rn.ye|unfold Rn.qN|unfold Rn.Ee|unfold Rn.B8|unfold Rn.B9|unfold Rn.D2|unfold Rn.BL|unfold Rn.o8|unfold Rn.uF|unfold Rn.Pq|unfold Rn.Yh)<;>(repeat' (first|exact Tt.pure _|exact Tt.fail|exact Tt.lift _|exact Tt.qm _|exact Tt.bA _|exact Tt.bS _ _|exact Tt.gQ _|exact bQ _ _|exact Tt.jz _ _ _|exact Tt.rQ _ _ _|exact Tt.newRow _|exact Tt.loadVar _ _ _ _|exact Tt.yd _ _ _ _|exact Tt.loadAt _ _ bQ _|exact Tt.storeVar _ _ _ _ _|exact Tt.buildSlice _ _ _ _|exact Tt.makeSlice _ _ _ _|exact Tt.firstCells _ _ _|exact Tt.grown _ _ _ _ _|exact Tt.xU _ _ _|exact Tt.rT _ _ _ _ _ _ _|exact Tt.pX _ _ _ _|exact Tt.z7 _ _ _ _|exact Tt.Xz _|exact Tt.z8 _ _ _ _|exact Tt.EM _ _ _ _ _ _|exact Tt.BI _ _ _ _ _|exact Tt.zV _ _ _ _ _|exact Tt.yo _ _ _ _ _|exact Tt.AD _ _ _|exact Tt.agQ _ _ _|exact Tt.zR _ _ _ _|exact Tt.toText _ _ _ _ _|exact Tt.zeroOf _ _|exact Tt.toZero _ _ _ _ _|exact Tt.BT _ _ _|exact Tt.Ef _|exact Tt.afe _|exact Tt.nK bQ _ _|exact Tt.tZ bQ _ _ _|refine Tt.aB (fun _ _=>?_)|refine Tt.aG (fun _=>?_)|refine Tt.bind ?_ (fun _=>?_)|split))
section
variable {α:Type} {s:AS} {i:Nat}
theorem xV{k m:Nat}{l:List Nat}:k∈below m l↔k∈l/\k<m:=by
 have h1:∀l:List Nat,k∈wh m l↔k∈l/\k<m:=by
  intro l;induction l with
  |nil=>simp[wh]
  |cons x l ih=>
   have e:wh m (x::l)=if m<=x then wh m l else x::wh m l:=by
    show @Bool.rec (fun _=>List Nat) (wh m l) (x::wh m l) (not<|Tw m x)=_;by_cases h:m<=x
    ·have:Tw m x=true:=by rw[VH];exact h
     rw[this,if_pos h];rfl
    ·have:Tw m x=false:=by
      cases q:Tw m x with
      |false=>rfl
      |true=>rw[VH] at q;exact absurd q h
     rw[this,if_neg h];rfl
   rw[e];by_cases h:m<=x
   ·rw[if_pos h,ih];constructor
    ·rintro ⟨a,b⟩;exact⟨TB _ a,b⟩
    ·rintro ⟨a,b⟩;rcases Ty.1 a with rfl|a
     ·omega
     ·exact⟨a,b⟩
   ·rw[if_neg h,Ty,ih,Ty];constructor
    ·rintro (rfl|⟨a,b⟩)
     ·exact⟨.inl rfl,by omega⟩
     ·exact⟨.inr a,b⟩
    ·rintro ⟨rfl|a,b⟩
     ·exact .inl rfl
     ·exact .inr ⟨a,b⟩
 have e:below m l=if m=0 then[] else wh m l:=by
  show @Bool.rec (fun _=>List Nat) (wh m l) [] (Tx m 0)=_;rw[OK];by_cases h:m=0
  ·rw[if_pos h,if_pos (by rw[beq_eq];exact h)]
  ·rw[if_neg h,if_neg (by rw[beq_eq];exact h)]
 rw[e];by_cases h:m=0
 ·rw[if_pos h];subst h;simp
 ·rw[if_neg h,h1]
theorem alO{m:M α}{s2:AS}{x:α×Met}(h:alone i m s= .ok x s2):
 ∃a s1,m ⟨s.h,s.nx,s.nx,[],[]⟩= .ok a s1/\x=(a,⟨i,below s.nx s1.rd,below s.nx s1.wr,s.nx,s1.nx⟩)/\s2=⟨s1.h,s1.nx,s.mark,below s.mark s1.rd++s.rd,below s.mark s1.wr++s.wr⟩:=by
 let⟨hh,nx,mark,rd,wr⟩:=s;have e:alone i m ⟨hh,nx,mark,rd,wr⟩=forced nx fun lo=>
  @R.rec α (fun _=>R<|α×Met) .bad (fun a s1=>
   @AS.rec (fun _=>R<|α×Met) (fun h1 qz _ gL oS=>forced qz fun hi=>.ok (a,⟨i,below lo gL,below lo oS,lo,hi⟩) ⟨h1,hi,mark,below mark gL++rd,below mark oS++wr⟩) s1)
   (m ⟨hh,lo,lo,[],[]⟩):=rfl
 rw[e,zO] at h;cases hm:m ⟨hh,nx,nx,[],[]⟩ with
 |bad=>rw[hm] at h;cases h
 |ok a s1=>rw[hm] at h;let⟨h1,qz,QI,gL,oS⟩:=s1;have h':forced qz (fun hi=>R.ok (a,(⟨i,below nx gL,below nx oS,nx,hi⟩:Met)) (⟨h1,hi,mark,below mark gL++rd,below mark oS++wr⟩:AS))= .ok x s2:=h;rw[zO] at h';cases h';exact⟨a,⟨h1,qz,QI,gL,oS⟩,by first|exact hm|rfl,rfl,rfl⟩
theorem adW{m:M α}{s1:AS}{a:α}(h:m ⟨s.h,s.nx,s.nx,[],[]⟩= .ok a s1):
 alone i m s= .ok (a,⟨i,below s.nx s1.rd,below s.nx s1.wr,s.nx,s1.nx⟩) ⟨s1.h,s1.nx,s.mark,below s.mark s1.rd++s.rd,below s.mark s1.wr++s.wr⟩:=by
 let⟨hh,nx,mark,rd,wr⟩:=s;have e:alone i m ⟨hh,nx,mark,rd,wr⟩=forced nx fun lo=>
  @R.rec α (fun _=>R<|α×Met) .bad (fun a s1=>
   @AS.rec (fun _=>R<|α×Met) (fun h1 qz _ gL oS=>forced qz fun hi=>.ok (a,⟨i,below lo gL,below lo oS,lo,hi⟩) ⟨h1,hi,mark,below mark gL++rd,below mark oS++wr⟩) s1)
   (m ⟨hh,lo,lo,[],[]⟩):=rfl
 rw[e,zO,h];let⟨h1,qz,QI,gL,oS⟩:=s1;show forced qz (fun hi=>R.ok (a,(⟨i,below nx gL,below nx oS,nx,hi⟩:Met)) (⟨h1,hi,mark,below mark gL++rd,below mark oS++wr⟩:AS))=_;rw[zO]
theorem Tt.alone{α:Type}(i:Nat){m:M α}(hm:Tt m):Tt<|alone i m:=by
 intro s v s2 fi h;obtain⟨a,s1,h1,rfl,rfl⟩:=alO h;let⟨dr,dw,d,x⟩:=hm ⟨s.h,s.nx,s.nx,[],[]⟩ a s1 ⟨Tz _,fi.nx⟩ h1;have er:s1.rd=dr:=by have:=d.rd;simpa using this
 have ew:s1.wr=dw:=by have:=d.wr;simpa using this
 refine⟨below s.mark dr,below s.mark dw,⟨by show below s.mark s1.rd++s.rd=_;rw[er],by show below s.mark s1.wr++s.wr=_;rw[ew],d.nx,d.top,rfl,?_,?_,d.tf⟩,?_⟩
 ·intro k hk hn;exact d.same k (TJ hk fi.mark) fun e=>hn<|xV.2 ⟨e,hk⟩
 ·intro k hk;let⟨a,b⟩:=xV.1 hk;exact xV.2 ⟨d.sub k a,b⟩
 ·intro A m0 t ag hA;let⟨t1,e1,al⟩:=x A m0 ⟨t.h,t.nx,t.nx,[],[]⟩ ⟨ag.nx,ag.nx,TO ag.low fi.mark,ag.is⟩ fun k hk ct=>hA k (xV.2 ⟨hk,TJ ct ag.low⟩) ct;have er':t1.rd=dr:=by have:=al.rd;simpa using this
  have ew':t1.wr=dw:=by have:=al.wr;simpa using this
  have hr:=adW (i:=i) (s:=t) e1;rw[er',ew', ←ag.nx, ←ag.mark, ←al.agree.nx] at hr;rw[er,ew];refine⟨_,hr,⟨rfl,rfl,ag.low,al.agree.is⟩,rfl,rfl,fun k hk hn=>al.same k hk fun e=>hn<|xV.2 ⟨e,TJ hk ag.low⟩,al.tf⟩
theorem Tt.hU(P:Program){Tu:aJ}(bQ:∀t a,Tt<|Tu t a)(nt:Nat)(ops:Array Oper)(o:Oper)(t:Tr AV):Tt<|hU P Tu nt ops o t:=by
 have hv:∀t op,Tt<|(dY P op).val Tu t:=fun t op=>Tt.Iq P bQ t op;unfold Rn.hU Cs;split<;>simp only[rC.val]
 ·unfold te;refine Tt.bind (hv _ _) fun _=>Tt.lift _
 ·unfold uG;rename_i g _;refine Tt.aG fun _=>?_;cases qO ops g t
  ·exact Tt.lift _
  ·exact Tt.bind (hv _ _) fun _=>Tt.lift _
theorem Tt.jE(P:Program){Tu:aJ}(bQ:∀t a,Tt<|Tu t a)(nt:Nat)(ops:Array Oper):∀(l:List Oper) (t:Tr AV),Tt (jE P Tu nt ops l t)
 |[],t=>Tt.pure t
 |o::l,t=>Tt.bind (Tt.hU P bQ nt ops o t) fun t=>Tt.jE P bQ nt ops l t
theorem Tt.nL(P:Program){Tu:aJ}(bQ:∀t a,Tt<|Tu t a)(nt:Nat)(ops:Array Oper):∀(l:List Oper) (i:Nat) (t:Tr AV),Tt (nL P Tu nt ops l i t)
 |[],_,_=>Tt.pure _
 |o::l,i,t=>Tt.bind (Tt.alone i<|Tt.hU P bQ nt ops o t) fun x=>Tt.bind (Tt.nL P bQ nt ops l (i+1) x.1) fun _=>Tt.pure _
theorem Tt.qM(P:Program){Tu:aJ}(bQ:∀t a,Tt<|Tu t a)(nt:Nat)(ops:Array Oper)(t:Tr AV):Tt<|qM P Tu nt ops t:=Tt.bind (Tt.nL P bQ nt ops _ _ _) fun _=>Tt.aG fun _=>Tt.pure _
theorem Tt.getLoop(l:Nat):Tt<|getLoop l:=by
 unfold Rn.getLoop
 repeat' (first
  |exact Tt.pure _|exact Tt.fail|exact Tt.lift _|exact Tt.qm _|exact Tt.bA _|exact Tt.bS _ _|exact Tt.gQ _
  |refine Tt.aB (fun _ _=>?_)|refine Tt.aG (fun _=>?_)|refine Tt.bind ?_ (fun _=>?_)
  |split)
theorem Tt.mj(l:Nat):Tt<|mj l:=by
 unfold Rn.mj
 repeat' (first
  |exact Tt.pure _|exact Tt.fail|exact Tt.lift _|exact Tt.qm _|exact Tt.bA _|exact Tt.bS _ _|exact Tt.gQ _|exact Tt.getLoop _
  |refine Tt.aB (fun _ _=>?_)|refine Tt.aG (fun _=>?_)|refine Tt.bind ?_ (fun _=>?_)
  |split)
theorem Tt.ain(P:Program){Tu:aJ}(bQ:∀t a,Tt<|Tu t a)(it:Item)(fn:FuncId)(t:Tr AV)(nt:Nat)(d:List Nat)(r:Option Nat)(k:List Item):Tt<|(wK P it).val Tu fn t nt d r k:=by
 cases it<;>simp only[wK]<;>(try simp only[rC.val])
 case code c=>
  unfold Yi;split<;>simp only<;>(first|(unfold rh;exact Tt.pure _)|(unfold oo;exact Tt.pure _)|(unfold YO;exact Tt.pure _)|(unfold QG;exact Tt.fail)|(unfold Ln;exact Tt.aB fun _ _=>Tt.aB fun _ _=>Tt.pure _)|(unfold EN;split<;>exact Tt.pure _)|(unfold EO;split<;>exact Tt.pure _)|(unfold J7;exact Tt.bind (Tt.jE P bQ _ _ _ _) fun _=>Tt.pure _)|(unfold JG;exact Tt.bind (Tt.qM P bQ _ _ _) fun _=>Tt.pure _)|skip);unfold wt
  repeat' (first
   |exact Tt.pure _|exact Tt.fail|exact Tt.lift _|exact Tt.qm _|exact Tt.bA _|exact Tt.bS _ _|exact Tt.gQ _
   |exact Tt.nK bQ _ _|exact bQ _ _|exact Tt.getLoop _|exact Tt.mj _
   |refine Tt.aB (fun _ _=>?_)|refine Tt.aG (fun _=>?_)|refine Tt.bind ?_ (fun _=>?_)
   |split)
 case beginRound=>
  unfold Aa
  repeat' (first
   |exact Tt.pure _|exact Tt.fail|exact Tt.lift _|exact Tt.qm _|exact Tt.bA _|exact Tt.bS _ _|exact Tt.gQ _|exact Tt.getLoop _
   |refine Tt.aB (fun _ _=>?_)|refine Tt.aG (fun _=>?_)|refine Tt.bind ?_ (fun _=>?_)
   |split)
 all_goals (first|exact Tt.pure _|exact Tt.fail)
theorem Tt.jB(P:Program){Tu:aJ}(bQ:∀t a,Tt<|Tu t a)(fr:AF):Tt<|jB P Tu fr:=by
 let⟨fn,t,nt,todo,d,r⟩:=fr;cases todo with
 |nil=>exact Tt.pure _
 |cons it k=>exact Tt.ain P bQ it fn t nt d r k
theorem Tt.oq(P:Program){Tu:aJ}(bQ:∀t a,Tt<|Tu t a):∀(n:Nat) (fr:AF),Tt (oq P Tu n fr)
 |0,fr=>Tt.jB P bQ fr
 |n+1,fr=>Tt.bind (Tt.oq P bQ n fr) (fun x=>by
  cases x with
  |go fr=>exact Tt.oq P bQ n fr
  |leave fr j=>exact Tt.pure _)
theorem Tt.qV(P:Program){Tu:aJ}(bQ:∀t a,Tt<|Tu t a):∀(n k:Nat) (fr:AF),Tt (qV P Tu n k fr)
 |0,_,_=>Tt.fail
 |n+1,k,fr=>Tt.bind (Tt.oq P bQ k fr) (fun x=>by
  cases x with
  |go fr=>exact Tt.qV P bQ n (k+1) fr
  |leave fr j=>exact Tt.pure _)
theorem Tt.BM(P:Program)(t:Tr AV)(r:ResultVar):Tt<|BM P t r:=by
 unfold Rn.BM
 repeat' (first
  |exact Tt.pure _|exact Tt.fail|exact Tt.lift _|exact Tt.qm _|exact Tt.bA _|exact Tt.bS _ _|exact Tt.gQ _|exact Tt.loadVar _ _ _ _
  |refine Tt.aB (fun _ _=>?_)|refine Tt.aG (fun _=>?_)|refine Tt.bind ?_ (fun _=>?_)
  |split)
theorem Tt.tW(P:Program)(t:Tr AV):∀l:List ResultVar,Tt (tW P t l)
 |[]=>Tt.pure _
 |r::l=>Tt.bind (Tt.BM P t r) fun _=>Tt.bind (Tt.tW P t l) fun _=>Tt.pure _
theorem Tt.rV:∀l:List Nat,Tt (rV l)
 |[]=>Tt.pure _
 |d::l=>Tt.bind (Tt.bA d) (fun o=>by
  split
  ·exact Tt.bind (Tt.bS _ _) (fun _=>Tt.rV l)
  ·exact Tt.fail)
theorem Tt.finish(P:Program)(rs:List ResultVar)(fr:AF)(j:Option Code):Tt<|finish P rs fr j:=by
 unfold Rn.finish
 repeat' (first
  |exact Tt.pure _|exact Tt.fail|exact Tt.lift _|exact Tt.qm _|exact Tt.bA _|exact Tt.bS _ _|exact Tt.gQ _|exact Tt.rV _|exact Tt.tW _ _ _
  |refine Tt.aB (fun _ _=>?_)|refine Tt.aG (fun _=>?_)|refine Tt.bind ?_ (fun _=>?_)
  |split)
theorem Tt.sb(fr:AF)(it:Operand):Tt<|sb fr it:=by
 unfold Rn.sb
 repeat' (first
  |exact Tt.pure _|exact Tt.fail|exact Tt.lift _|exact Tt.bA _
  |refine Tt.bind ?_ (fun _=>?_)
  |split)
theorem Tt.oi(P:Program){Tu:aJ}(bQ:∀t a,Tt<|Tu t a)(fr:AF)(n:Nat)(ob:ah)(o:Oper)(ops:Array Oper)(rest:List Oper)(k:List Item)(v:AV):
 Tt (oi P Tu fr n ob o ops rest k v):=by
 unfold Rn.oi
 repeat' (first
  |exact Tt.pure _|exact Tt.lift _|exact Tt.bS _ _|exact Tt.jE P bQ _ _ _ _
  |refine Tt.bind ?_ fun _=>?_)
theorem Tt.og(P:Program){Tu:aJ}(bQ:∀t a,Tt<|Tu t a)(fr:AF)(n m:Nat)(es:List<|AV×AV)(ex:Bool)(o:Oper)(ops:Array Oper)(rest:List Oper)(k:List Item):
 Tt (og P Tu fr n m es ex o ops rest k):=by
 unfold Rn.og
 repeat' (first
  |exact Tt.pure _|exact Tt.lift _|exact Tt.bS _ _|exact Tt.jE P bQ _ _ _ _
  |refine Tt.bind ?_ fun _=>?_)
theorem Tt.oj(P:Program){Tu:aJ}(bQ:∀t a,Tt<|Tu t a):∀(f:Nat) (fr:AF),Tt (oj P Tu f fr)
 |0,_=>Tt.fail
 |f+1,fr=>by
  unfold Rn.oj
  repeat' (first
   |exact Tt.fail|exact Tt.pure _|exact Tt.oj P bQ f _|exact Tt.sb _ _|exact Tt.oi P bQ _ _ _ _ _ _ _ _|exact Tt.og P bQ _ _ _ _ _ _ _ _ _|exact Tt.jB P bQ _
   |refine Tt.bind ?_ (fun _=>?_)
   |split)
theorem Tt.AE(P:Program){Tu:aJ}(bQ:∀t a,Tt<|Tu t a)(w:Nat)(fr:AF):Tt<|AE P Tu w fr:=by
 unfold Rn.AE;split
 ·exact Tt.oj P bQ _ _
 ·exact Tt.qV P bQ _ _ _
theorem Tt.EP(P:Program)(u f n:Nat)(rs:List ResultVar)(body:Code){Tu:aJ}(bQ:∀t a,Tt<|Tu t a)(args:List AV):Tt<|EP P u f n rs body Tu args:=
 Tt.aG (fun _=>Tt.bind (Tt.AE P bQ _ _) (fun x=>by
  cases x with
  |go fr=>exact Tt.fail
  |leave fr j=>exact Tt.finish P rs fr j))
theorem Tt.endRound(l:Nat)(j:Option Code):Tt<|endRound l j:=by
 unfold Rn.endRound
 repeat' (first
  |exact Tt.pure _|exact Tt.fail|exact Tt.lift _|exact Tt.qm _|exact Tt.bA _|exact Tt.bS _ _|exact Tt.gQ _|exact Tt.getLoop _
  |refine Tt.aB (fun _ _=>?_)|refine Tt.aG (fun _=>?_)|refine Tt.bind ?_ (fun _=>?_)
  |split)
theorem Tt.BO(P:Program){Tu:aJ}(bQ:∀t a,Tt<|Tu t a)(l:Nat)(args:List AV):Tt<|BO P Tu l args:=by
 unfold Rn.BO;refine Tt.bind (Tt.getLoop _) fun o=>?_;split
 ·exact Tt.aG fun _=>Tt.bind (Tt.qV P bQ _ _ _) (fun x=>by
   cases x with
   |go fr=>exact Tt.fail
   |leave fr j=>exact Tt.endRound l j)
 ·exact Tt.fail
end
theorem JI{n:Nat}:∀{l:List Nat},CE n l=true↔n∈l
 |[]=>by simp[CE]
 |x::l=>by
  simp only[CE];cases h:Tx x n with
  |true=>rw[beq_eq] at h;subst h;simp
  |false=>
   have:¬x=n:=by rw[←beq_eq,h];simp
   simp only[JI (l:=l),Ty];constructor
   ·exact .inr
   ·rintro (e|e)
    ·exact absurd e.symm this
    ·exact e
theorem Jh(P:Program)(kH:FuncId->Nat):∀(n:Nat) (t:Ip) (args:List AV),Tt (AG P kH n t args)
 |0,_,_=>Tt.fail
 |n+1,.fn f,args=>by
  have bQ:∀t a,Tt<|AG P kH n t a:=fun t a=>Jh P kH n t a;show Tt<|(Ir P kH f).val (AG P kH n) args;unfold Ir
  repeat' split
  all_goals first|exact Tt.fail|exact Tt.EP P _ _ _ _ _ bQ _
 |n+1,.round l,args=>Tt.BO P (fun t a=>Jh P kH n t a) l args
 |_+1,.row _ _ _,_=>Tt.fail
section
variable {ρ σ:Ren} {w w':World} {b n N c a:Nat} {B:aE} {h h':Tr ah} {o:ah} {o':Obj} {x:Nat×Nat}
def eW(ρ:Ren)(n:Nat)(x:Nat×Nat):Ren:=fun k=>if k=n then some x else ρ k
theorem oh(h:ρ n=none):ρ.le<|eW ρ n x:=by
 intro k y e;unfold eW;by_cases q:k=n
 ·subst q;rw[h] at e;cases e
 ·rw[if_neg q];exact e
theorem jg(ρ:Ren)(n:Nat)(x:Nat×Nat):eW ρ n x n=some x:=by simp[eW]
theorem gO(ρ:Ren){k:Nat}(x:Nat×Nat)(h:k≠n):eW ρ n x k=ρ k:=by simp[eW,h]
structure wu (b:Nat) (w w':World):Prop where
 os:w'.os=w.os
 tape:w'.tape=w.tape
 output:w'.output=w.output
 size:w'.heap.size=w.heap.size
 block:∀k,k≠b->w'.heap[k]? =w.heap[k]?
structure cI (B:aE) (w w':World):Prop where
 os:w'.os=w.os
 tape:w'.tape=w.tape
 output:w'.output=w.output
 size:w.heap.size<=w'.heap.size
 block:∀k,k<w.heap.size->¬B.may k->w'.heap[k]? =w.heap[k]?
theorem cI.refl(B:aE)(w:World):cI B w w:=⟨rfl,rfl,rfl,Tz _,fun _ _ _=>rfl⟩
theorem cI.trans{a b c:World}(h:cI B a b)(k:cI B b c):cI B a c:=⟨k.os.trans h.os,k.tape.trans h.tape,k.output.trans h.output,TO h.size k.size,fun i hi hm=>(k.block i (TJ hi h.size) hm).trans<|h.block i hi hm⟩
theorem wu.below(h:wu b w w')(hb:B.may b):cI B w w':=⟨h.os,h.tape,h.output,by rw[h.size];exact Tz _,fun k _ hm=>h.block k fun e=>hm (by rw[e];exact hb)⟩
theorem Fz.of(f:Fz B ρ h w)(hl:ρ.le σ)(hw:∀b,b<w.heap.size->kG ρ h b->w'.heap[b]? =w.heap[b]?)(hd:∀b,b<w.heap.size->kG ρ h b->kG σ h' b)(hm:∀k,top<=k->σ k=ρ k:=by(intro k hk;first|rfl|exact gO _ _ ak)):Fz B σ h' w':=by intro n b sh e;rw[hm _<|gb _ _ _] at e;let⟨h0,l,c,e',fr,h1,h3,h4,h5⟩:=f n b sh e;have hb:b<w.heap.size:=(UR.1 h3).1;exact⟨h0,l,c,e',fr,h1,(hw b hb h4).trans h3,hd b hb h4,fun i x hx=>by let⟨v,a1,a2,a3⟩:=h5 i x hx;exact⟨v,a1,VR.mono (D1 hl) _ _ a2,a3⟩⟩
theorem kG.sub(k:kG ρ h b)(hs:∀m o,m<top->h'.get m=some o->o.dA=false->∃p,h.get m=some p/\p.dA=false):kG ρ h' b:=by intro m o N hm hg hr;let⟨p,e1,e2⟩:=hs m o hm hg hr;exact k m p N hm e1 e2
def ah.plain:ah->Bool
 | .iter _ _ _ _ _=>false
 | .iT=>false
 | .tok _ _=>false
 |_=>true
def ah.iA:ah->Bool
 | .iter _ _ _ _ _=>false
 | .iT=>false
 |_=>true
def ah.lB:ah->Bool
 | .tok _ _=>true
 |_=>false
def fc(o1 o2:ah):Prop:=(o2.dA=false->o1.dA=false)/\(o2.lB=true->o1=o2)/\(o2.nq=true->o1.nq=true)
theorem fc.refl(o:ah):fc o o:=⟨id,fun _=>rfl,id⟩
def ah.own:ah->Bool
 | .iter _ _ _ _ _=>false
 | .iT=>false
 | .tok _ _=>false
 | .ro _ _=>false
 | .uD _ _=>false
 |_=>true
theorem ah.vY(h:o.own=true):o.plain=true/\o.dA=false:=by cases o<;>first|exact⟨rfl,rfl⟩|cases h
theorem Rel.block(r:Rel B ρ h w)(ht:n<top)(hg:h.get n=some o)(hr:ρ n=some (b,N)):
 ∃o',w.heap[b]? =some o'/\OR ρ N o o'/\(o.dA=false->B.may b):=by
 let⟨b',N',o',h1,h2,h3,h4⟩:=r.is n o ht hg;rw[hr] at h1;cases h1;exact⟨o',h2,h3,h4⟩
theorem ni.nr{m:Nat}{es:List<|AV×AV}{ex:Bool}{left:List<|AV×AV}{cur:Option<|AV×AV}(u:ni ρ w n m es ex left cur)(hw:∀k,k≠b->w'.heap[k]? =w.heap[k]?)(hn:∀N,ρ n≠some (b,N))(hm:∀N,ρ m≠some (b,N)):ni ρ w' n m es ex left cur:=by let⟨b1,N,bm,M,l,bu,seen,h1,h2,h3,h4,h5⟩:=u;exact⟨b1,N,bm,M,l,bu,seen,h1,h2,(hw b1 fun e=>hn N<|by rw[h1,e]).trans h3,(hw bm fun e=>hm M<|by rw[h2,e]).trans h4,h5⟩
theorem Rel.put(r:Rel B ρ h w){p:ah}(ht:n<top)(hg:h.get n=some p)(hp:p.plain=true)(cL:p.dA=false)(hr:ρ n=some (b,N))(C5:o.own=true)(hw:wu b w w')(hb:w'.heap[b]? =some o')(hO:OR ρ N o o'):Rel B ρ (h.put n<|some o) w':=by
 let⟨ho,HF⟩:=ah.vY C5;let⟨_,_,_,hB⟩:=r.block ht hg hr;have g:∀m,m<top->(h.put n<|some o).get m=if m=n then some o else h.get m:=fun m hm=>Tr.dy _ _ _ _ ht hm
 refine⟨?_,?_,?_,by rw[hw.size];exact r.size,?_,r.fz.of (Ren.le_refl _) (fun b1 _ hn=>hw.block b1 fun e=>hn n p N ht hg cL (by rw[e];exact hr)) (fun b1 _ hn=>hn.sub fun m q hm hq iy=>by
  rw[g m hm] at hq;by_cases e:m=n
  ·subst e;exact⟨p,hg,cL⟩
  ·rw[if_neg e] at hq;exact⟨q,hq,iy⟩),r.tk.of (Ren.le_refl _) (fun m q hm hq hr=>by
  rw[g m hm] at hq;by_cases e:m=n
  ·rw[if_pos e] at hq;cases hq;rw[HF] at hr;cases hr
  ·rw[if_neg e] at hq;exact hq) (by rw[hw.size];exact Tz _) (fun b1 _ hn=>hw.block b1 fun e=>hn n p N ht hg cL (by rw[e];exact hr)) (fun b1 _ hn=>hn.sub fun m q hm hq iy=>by
  rw[g m hm] at hq;by_cases e:m=n
  ·subst e;exact⟨p,hg,cL⟩
  ·rw[if_neg e] at hq;exact⟨q,hq,iy⟩) fun _ _ _ _ _ e=>e⟩
 ·intro m q hm hq;rw[g m hm] at hq;by_cases e:m=n
  ·subst e;rw[if_pos rfl] at hq;cases hq;exact⟨b,N,o',hr,hb,hO,fun _=>hB cL⟩
  ·rw[if_neg e] at hq;let⟨b1,N1,o1,h1,h2,h3,h4⟩:=r.is m q hm hq;refine⟨b1,N1,o1,h1,(hw.block b1 fun e2=>?_).trans h2,h3,h4⟩;subst e2;exact e<|r.one m n q p b1 N1 N hm ht hq hg (.inr cL) h1 hr
 ·intro m k q q' b1 N1 M1 hm hk hq eN cV h1 h2;rw[g m hm] at hq;rw[g k hk] at eN;have live:∀j,j<top->∀x,(if j=n then some o else h.get j)=some x->∃y,h.get j=some y/\(x.dA=false->y.dA=false):=by
   intro j _ x hx;by_cases e:j=n
   ·subst e;exact⟨p,hg,fun _=>cL⟩
   ·rw[if_neg e] at hx;exact⟨x,hx,id⟩
  let⟨y,hy,xp⟩:=live m hm q hq;let⟨z,hz,Iu⟩:=live k hk q' eN;exact r.one m k y z b1 N1 M1 hm hk hy hz (cV.imp xp Iu) h1 h2
 ·intro i m es ex left cur hi hq;rw[g i hi] at hq;by_cases e:i=n
  ·subst e;rw[if_pos rfl] at hq;cases hq;simp[ah.plain] at ho
  ·rw[if_neg e] at hq;let⟨hm,hl,u⟩:=r.iter i m es ex left cur hi hq;have tg:m≠n:=by intro e2;subst e2;rw[hg] at hl;cases hl;simp[ah.plain] at hp
   refine⟨hm,by rw[g m hm,if_neg tg];exact hl,u.nr hw.block (fun M e2=>e ?_) fun M e2=>tg ?_⟩
   ·exact r.one i n _ p b M N hi ht hq hg (.inr cL) e2 hr
   ·exact r.one m n _ p b M N hm ht hl hg (.inr cL) e2 hr
 ·intro i j m es ex left cur iw jr iW iY hi hj h1 h2;rw[g i hi] at h1;rw[g j hj] at h2;by_cases e:i=n
  ·rw[if_pos e] at h1;cases h1;simp[ah.plain] at ho
  ·rw[if_neg e] at h1;by_cases e2:j=n
   ·rw[if_pos e2] at h2;cases h2;simp[ah.plain] at ho
   ·rw[if_neg e2] at h2;exact r.lone i j m es ex left cur iw jr iW iY hi hj h1 h2
theorem Rel.drop(r:Rel B ρ h w)(ht:n<top)(hn:h.get n≠some .iT):Rel B ρ (h.put n none) w:=by
 have g:∀m,m<top->(h.put n none).get m=if m=n then none else h.get m:=fun m hm=>Tr.dy _ _ _ _ ht hm
 refine⟨?_,?_,?_,r.size,?_,r.fz.of (Ren.le_refl _) (fun _ _ _=>rfl) (fun b1 _ hn=>hn.sub fun m q hm hq iy=>by
  rw[g m hm] at hq;by_cases e:m=n
  ·rw[if_pos e] at hq;cases hq
  ·rw[if_neg e] at hq;exact⟨q,hq,iy⟩),r.tk.of (Ren.le_refl _) (fun m q hm hq _=>by
  rw[g m hm] at hq;by_cases e:m=n
  ·rw[if_pos e] at hq;cases hq
  ·rw[if_neg e] at hq;exact hq) (Tz _) (fun _ _ _=>rfl) (fun b1 _ hn=>hn.sub fun m q hm hq iy=>by
  rw[g m hm] at hq;by_cases e:m=n
  ·rw[if_pos e] at hq;cases hq
  ·rw[if_neg e] at hq;exact⟨q,hq,iy⟩) fun _ _ _ _ _ e=>e⟩
 ·intro m q hm hq;rw[g m hm] at hq;by_cases e:m=n
  ·rw[if_pos e] at hq;cases hq
  ·rw[if_neg e] at hq;exact r.is m q hm hq
 ·intro m k q q' b1 N1 M1 hm hk hq eN cV h1 h2;rw[g m hm] at hq;rw[g k hk] at eN;by_cases e:m=n
  ·rw[if_pos e] at hq;cases hq
  ·by_cases e2:k=n
   ·rw[if_pos e2] at eN;cases eN
   ·rw[if_neg e] at hq;rw[if_neg e2] at eN;exact r.one m k q q' b1 N1 M1 hm hk hq eN cV h1 h2
 ·intro i m es ex left cur hi hq;rw[g i hi] at hq;by_cases e:i=n
  ·rw[if_pos e] at hq;cases hq
  ·rw[if_neg e] at hq;let⟨hm,hl,u⟩:=r.iter i m es ex left cur hi hq;have tg:m≠n:=by intro e2;subst e2;exact hn hl
   exact⟨hm,by rw[g m hm,if_neg tg];exact hl,u⟩
 ·intro i j m es ex left cur iw jr iW iY hi hj h1 h2;rw[g i hi] at h1;rw[g j hj] at h2;by_cases e:i=n
  ·rw[if_pos e] at h1;cases h1
  ·rw[if_neg e] at h1;by_cases e2:j=n
   ·rw[if_pos e2] at h2;cases h2
   ·rw[if_neg e2] at h2;exact r.lone i j m es ex left cur iw jr iW iY hi hj h1 h2
structure iq (w w':World):Prop where
 os:w'.os=w.os
 tape:w'.tape=w.tape
 output:w'.output=w.output
 size:w.heap.size<=w'.heap.size
 block:∀k,k<w.heap.size->w'.heap[k]? =w.heap[k]?
theorem iq.drew(w:World):iq w {w with drawn:=w.drawn+1}:=⟨rfl,rfl,rfl,Tz _,fun _ _=>rfl⟩
theorem iq.alloc(w:World)(o:Obj):iq w {w with heap:=w.heap.push o}:=⟨rfl,rfl,rfl,by simp,fun k hk=>by simp[VI];intro e;omega⟩
theorem iq.trans{a b c:World}(h:iq a b)(k:iq b c):iq a c:=⟨k.os.trans h.os,k.tape.trans h.tape,k.output.trans h.output,TO h.size k.size,fun i hi=>(k.block i<|TJ hi h.size).trans<|h.block i hi⟩
theorem iq.below(h:iq w w')(_:∀k,w.heap.size<=k->B.may k):cI B w w':=⟨h.os,h.tape,h.output,h.size,fun k hk _=>h.block k hk⟩
theorem gC{o:Obj}(h:w.heap[b]? =some o):b<w.heap.size:=(UR.1 h).1
theorem Rel.Fi(r:Rel B ρ h w)(g:iq w w'):Rel B ρ h w':=by
 refine⟨?_,r.one,?_,fun k hk=>r.size k<|TO g.size hk,r.lone,r.fz.of (Ren.le_refl _) (fun b hb _=>g.block b hb) fun _ _ hn=>hn,r.tk.of (Ren.le_refl _) (fun _ _ _ hq _=>hq) g.size (fun b hb _=>g.block b hb) (fun _ _ hn=>hn) fun _ _ _ _ _ e=>e⟩
 ·intro m q hm hq;let⟨b1,N1,o1,h1,h2,h3,h4⟩:=r.is m q hm hq;exact⟨b1,N1,o1,h1,(g.block b1<|gC h2).trans h2,h3,h4⟩
 ·intro i m es ex left cur hi hq;let⟨hm,fE,b1,N,bm,M,l,bu,seen,h1,h2,h3,h4,h5⟩:=r.iter i m es ex left cur hi hq;exact⟨hm,fE,b1,N,bm,M,l,bu,seen,h1,h2,(g.block b1<|gC h3).trans h3,(g.block bm<|gC h4).trans h4,h5⟩
theorem Rel.name(r:Rel B ρ h w)(ht:n<top)(pH:ρ n=none)(ho:o.plain=true)(hb:w.heap[b]? =some o')(hB:o.dA=false->B.may b)(hfz:∀k sh,ρ (hn k b sh)=none)(mq:∀m p,m<top->h.get m=some p->∀M,ρ m≠some (b,M))(hO:OR (eW ρ n (b,N)) N o o')(hT:vh B (eW ρ n (b,N)) (h.put n<|some o) w):Rel B (eW ρ n (b,N)) (h.put n<|some o) w:=by
 have hl:ρ.le<|eW ρ n (b,N):=oh pH;have mD:h.get n=none:=by
  cases e:h.get n with
  |none=>rfl
  |some p=>let⟨_,_,_,h1,_⟩:=r.is n p ht e;rw[pH] at h1;cases h1
 have g:∀m,m<top->(h.put n<|some o).get m=if m=n then some o else h.get m:=fun m hm=>Tr.dy _ _ _ _ ht hm
 refine⟨?_,?_,?_,r.size,?_,fun k b1 sh e=>by
  rw[gO ρ _ (by have:=gb k b1 sh;omega)] at e;let⟨h0,l,c,e',fr,h1,h3,h4,h5⟩:=r.fz k b1 sh e;refine⟨h0,l,c,e',fr,h1,h3,fun m q M hm hq iy e2=>?_,fun i x hx=>by let⟨v,a1,a2,a3⟩:=h5 i x hx;exact⟨v,a1,VR.mono (D1 hl) _ _ a2,a3⟩⟩;rw[g m hm] at hq;by_cases e3:m=n
  ·subst e3;rw[jg] at e2;cases e2;exact e (hfz k sh)
  ·rw[if_neg e3] at hq;rw[gO ρ _ e3] at e2;exact h4 m q M hm hq iy e2,hT⟩
 ·intro m q hm hq;rw[g m hm] at hq;by_cases e:m=n
  ·subst e;rw[if_pos rfl] at hq;cases hq;exact⟨b,N,o',jg _ _ _,hb,hO,hB⟩
  ·rw[if_neg e] at hq;let⟨b1,N1,o1,h1,h2,h3,h4⟩:=r.is m q hm hq;exact⟨b1,N1,o1,hl _ _ h1,h2,h3.mono hl,h4⟩
 ·intro m k q q' b1 N1 M1 hm hk hq eN cV h1 h2;rw[g m hm] at hq;rw[g k hk] at eN;by_cases e:m=n
  ·by_cases e2:k=n
   ·omega
   ·rw[if_neg e2] at eN;subst e;rw[jg] at h1;cases h1;rw[gO ρ _ e2] at h2;exact absurd h2<|mq k q' hk eN M1
  ·rw[if_neg e] at hq;rw[gO ρ _ e] at h1;by_cases e2:k=n
   ·subst e2;rw[jg] at h2;cases h2;exact absurd h1<|mq m q hm hq N1
   ·rw[if_neg e2] at eN;rw[gO ρ _ e2] at h2;exact r.one m k q q' b1 N1 M1 hm hk hq eN cV h1 h2
 ·intro i m es ex left cur hi hq;rw[g i hi] at hq;by_cases e:i=n
  ·subst e;rw[if_pos rfl] at hq;cases hq;simp[ah.plain] at ho
  ·rw[if_neg e] at hq;let⟨hm,fE,u⟩:=r.iter i m es ex left cur hi hq;have tg:m≠n:=by intro e2;subst e2;rw[mD] at fE;cases fE
   exact⟨hm,by rw[g m hm,if_neg tg];exact fE,u.mono hl⟩
 ·intro i j m es ex left cur iw jr iW iY hi hj h1 h2;rw[g i hi] at h1;rw[g j hj] at h2;by_cases e:i=n
  ·rw[if_pos e] at h1;cases h1;simp[ah.plain] at ho
  ·rw[if_neg e] at h1;by_cases e2:j=n
   ·rw[if_pos e2] at h2;cases h2;simp[ah.plain] at ho
   ·rw[if_neg e2] at h2;exact r.lone i j m es ex left cur iw jr iW iY hi hj h1 h2
theorem Rel.new(r:Rel B ρ h w)(ht:n<top)(pH:ρ n=none)(C5:o.own=true)(hO:OR (eW ρ n (w.heap.size,N)) N o o'):Rel B (eW ρ n (w.heap.size,N)) (h.put n<|some o) {w with heap:=w.heap.push o'}:=by
 let⟨ho,HF⟩:=ah.vY C5;refine(r.Fi<|iq.alloc w o').name ht pH ho j0 (fun _=>r.size _<|Tz _) (fun k sh=>by
  cases e:ρ (Rn.hn k w.heap.size sh) with
  |none=>rfl
  |some x=>let⟨_,_,_,_,_,_,h3,_⟩:=r.fz k w.heap.size sh (by rw[e];exact fun h=>by cases h);exact absurd (gC h3)<|US _) (fun m p hm hp M e=>?_) hO ?_
 ·let⟨b1,N1,o1,h1,h2,_⟩:=r.is m p hm hp;rw[e] at h1;cases h1;exact absurd (gC h2)<|US _
 ·have g:∀m,m<top->(h.put n<|some o).get m=if m=n then some o else h.get m:=fun m hm=>Tr.dy _ _ _ _ ht hm
  exact r.tk.of (oh pH) (fun m q hm hq hr=>by
   rw[g m hm] at hq;by_cases e:m=n
   ·rw[if_pos e] at hq;cases hq;rw[HF] at hr;cases hr
   ·rw[if_neg e] at hq;exact hq) (iq.alloc w o').size (fun b hb _=>(iq.alloc w o').block b hb) (fun b1 vt hn m q M hm hq iy e2=>by
   rw[g m hm] at hq;by_cases e3:m=n
   ·subst e3;rw[jg] at e2;cases e2;exact absurd vt (US _)
   ·rw[if_neg e3] at hq;rw[gO ρ _ e3] at e2;exact hn m q M hm hq iy e2) (fun j x sh _ _ e=>by rw[gO ρ _ (by have:=gb j x sh;omega)];exact e)
structure Ext (a b:Nat) (ρ σ:Ren):Prop where
 le:ρ.le σ
 out:∀k,k<top->¬(a<=k/\k<b)->σ k=ρ k
theorem Ext.refl(a b:Nat)(ρ:Ren):Ext a b ρ ρ:=⟨Ren.le_refl ρ,fun _ _ _=>rfl⟩
theorem Ext.trans{τ:Ren}(Iv:a<=b)(hbc:b<=c)(h:Ext a b ρ σ)(k:Ext b c σ τ):Ext a c ρ τ:=⟨Ren.le_trans h.le k.le,fun j hj hk=>(k.out j hj ak).trans<|h.out j hj ak⟩
theorem Ext.cX(h:ρ n=none):Ext n (n+1) ρ<|eW ρ n x:=⟨oh h,fun k _ hk=>gO ρ x ak⟩
def dU(a b:Nat)(ρ:Ren):Prop:=∀k,a<=k->k<b->k<top->ρ k=none
theorem dU.next(hf:dU a c ρ)(Iv:a<=b)(e:Ext a b ρ σ):dU b c σ:=fun k h1 h2 h3=>(e.out k h3 ak).trans<|hf k ak h2 h3
theorem dU.sub{d:Nat}(hf:dU a d ρ)(h1:a<=b)(h2:c<=d):dU b c ρ:=fun k p q r=>hf k ak ak r
end
section
variable {n off b k N:Nat} {ρ:Ren} {w:World} {vs:List Value} {l:List AV} {c:Array Value} {s1 s:AS} {P:Program} {e:TypeId} {B:aE} {u:Unit}
theorem gr{o:ah}(h:bA n s= .ok o s1):n<s.nx/\s.h.get n=some o/\s1.h=s.h/\s1.nx=s.nx:=by
 obtain⟨h1,h2,rfl⟩:=Pr h;by_cases e:n<s.mark
 ·rw[if_pos e];exact⟨h1,h2,rfl,rfl⟩
 ·rw[if_neg e];exact⟨h1,h2,rfl,rfl⟩
theorem jP{o:Option ah}(h:bS n o s= .ok u s1):
 n<s.nx/\n<top/\(∃p,s.h.get n=some p/\p.dA=false)/\s1.h=s.h.put n o/\s1.nx=s.nx:=by
 obtain⟨h1,h2,h3,rfl⟩:=ant h;by_cases e:n<s.mark
 ·rw[if_pos e];exact⟨h1,h2,h3,rfl,rfl⟩
 ·rw[if_neg e];exact⟨h1,h2,h3,rfl,rfl⟩
theorem aI{m:Nat}:Tw n m=true↔n<=m:=by rw[VH]
theorem eP{m:Nat}:Tx n m=true↔n=m:=by rw[Nat.beq_eq]
theorem and_true{a b:Bool}:and a b=true↔a=true/\b=true:=UI
theorem I9{t:Tr AV}{z:List AV}:∀{k off:Nat} {l:List AV},ly t z k off=some l->l.length=k/\∀i,i<k->cellAt t z (off+i)=l[i]?
 |0,off,l,h=>by
  simp only[ly] at h;injection h with h;subst h
  exact⟨rfl,fun i hi=>by omega⟩
 |k+1,off,l,h=>by
  simp only[ly] at h;cases e:cellAt t z off with
  |none=>rw[e] at h;cases h
  |some v=>
   simp only[e] at h;cases e2:ly t z k (off+1) with
   |none=>simp only[e2] at h;cases h
   |some r=>
    simp only[e2] at h;injection h with h;subst h
    let⟨a,b⟩:=I9 e2;refine⟨by simp[a],fun i hi=>?_⟩;cases i with
    |zero=>simpa using e
    |succ i=>have:=b i ak;rw[show off+1+i=off+(i+1) from by omega] at this;simpa using this
def Row(ρ:Ren)(c:Array Value)(n:Nat)(aw:Nat->Option AV):Prop:=∀i,i<n->∃x v,aw i=some x/\x.bM=true/\c[i]? =some v/\VR ρ x v
theorem Row.get{aw:Nat->Option AV}(r:Row ρ c n aw)(hk:off+k<=n)(hl:l.length=k)(h:∀i,i<k->aw (off+i)=l[i]?):
 ∃vs:List Value,vs.length=k/\ax ρ l vs/\(∀j v,vs[j]? =some v->c[off+j]? =some v)/\∀x∈l,x.bM=true:=by
 have cell:∀i,i<k->∃x v,l[i]? =some x/\x.bM=true/\c[off+i]? =some v/\VR ρ x v:=by intro i hi;let⟨x,v,h1,h2,h3,h4⟩:=r (off+i) ak;exact⟨x,v,by rw[←h i hi];exact h1,h2,h3,h4⟩
 refine⟨(Ui k).map fun i=>c.getD (off+i) undef,by simp,?_,?_,?_⟩
 ·refine ax.Xy _ _ (by simp[hl]) fun i a b ha hb=>?_;have hi:i<k:=by have:=TZ.1 ha;let⟨h1,_⟩:=this;omega
  let⟨x,v,h1,h2,h3,h4⟩:=cell i hi;rw[h1] at ha;cases ha;have gS:b=v:=by rw[Uc,Vt hi] at hb;simp only[Uj,Ud] at hb;rw[←hb,Ua,h3];rfl
  rw[gS];exact h4
 ·intro j v hv;have hj:j<k:=by have:=TZ.1 hv;let⟨h1,_⟩:=this;simpa using h1
  let⟨x,u,h1,h2,h3,h4⟩:=cell j hj;rw[Uc,Vt hj] at hv;simp only[Uj,Ud] at hv;rw[←hv,Ua,h3];rfl
 ·intro x hx;obtain⟨i,hi,rfl⟩:=List.getElem_of_mem hx;let⟨y,v,h1,h2,h3,h4⟩:=cell i ak;rw[TE hi] at h1;cases h1;exact h2
theorem JJ{fr:Nat×Nat}(hb:w.heap[b]? =some (.cells c e fr))(h:∀j v,vs[j]? =some v->c[off+j]? =some v):(loadCells ⟨b,off,none⟩ vs.length).run P w= .ok vs.toArray w:=by
 refine run_loadCells_list w ⟨b,off,none⟩ vs fun j v hv=>?_;have YQ:(Addr.mk b off none).add j=⟨b,off+j,none⟩:=by
  unfold Addr.add;by_cases q:j=0
  ·subst q;simp
  ·rw[if_neg q]
 rw[YQ];simp only[World.cell?,hb];exact h j v hv
theorem zL(fi:bH s)(r:Rel B ρ s.h w)(h:jz n off k s= .ok l s1)(hn:ρ n=some (b,N)):
 s1.h=s.h/\s1.nx=s.nx/\l.length=k/\(∀x∈l,x.bM=true)/\∃vs:List Value,(loadCells ⟨b,off,none⟩ k).run P w= .ok vs.toArray w/\ax ρ l vs/\∀j v,vs[j]? =some v->w.cell? ⟨b,off+j,none⟩=some v:=by
 cases k with
 |zero=>have h':M.pure [] s= .ok l s1:=h;obtain⟨rfl,rfl⟩:=bG h';exact⟨rfl,rfl,rfl,fun x hx=>(by cases hx),[],rfl,by simp[ax],fun j v h=>(by simp at h)⟩
 |succ k=>
  unfold jz at h;let⟨o,s2,h1,h2⟩:=M.aQ h;let⟨hx,hg,hh,cM⟩:=gr h1;have ht:n<top:=TJ hx fi.nx;let⟨o',hb,hO,_⟩:=r.block ht hg hn;cases o with
  |cells m t z=>let⟨q1,q2⟩:=dv h2;obtain⟨q3,rfl⟩:=ij q2;obtain⟨c,e,rfl,hc,hm,row⟩:=hO;let⟨g1,g2⟩:=I9 q3;let⟨vs,v1,v2,v3,v4⟩:=Row.get (ρ:=ρ) (c:=c) (n:=m) (aw:=cellAt t z) row (aI.1 q1) g1 g2;refine⟨hh,cM,g1,v4,vs,?_,v2,fun j v hv=>by simp only[World.cell?,hb];exact v3 j v hv⟩;have:=JJ (P:=P) hb v3;rw[v1] at this;exact this
  |ro m t=>
   let⟨q1,q2⟩:=dv h2;obtain⟨q3,rfl⟩:=ij q2;obtain⟨c,e,fr,rfl,hc,hm,row⟩:=hO;let⟨g1,g2⟩:=I9 q3;have akb:Row ρ c m<|cellAt t []:=by intro i hi;let⟨x,v,a1,a2,a3,a4⟩:=row i hi;exact⟨x,v,by unfold cellAt;rw[a1],a2,a3,a4⟩
   let⟨vs,v1,v2,v3,v4⟩:=akb.get (aI.1 q1) g1 g2;refine⟨hh,cM,g1,v4,vs,?_,v2,fun j v hv=>by simp only[World.cell?,hb];exact v3 j v hv⟩;have:=JJ (P:=P) hb v3;rw[v1] at this;exact this
  |_=>cases h2
theorem NF{cs:Array Value}{fr:Nat×Nat}(hb:w.heap[b]? =some (.cells c e fr)):
 wu b w (w.setRow b cs)/\(w.setRow b cs).heap[b]? =some (.cells cs e fr):=by
 refine⟨⟨rfl,rfl,rfl,by simp[World.setRow],fun k hk=>?_⟩,setRow_heap w b c cs e fr hb⟩;simp only[World.setRow,V5];rw[if_neg ak]
theorem abx{x:AV}{v:Value}(h:VR ρ x v)(hx:x.bM=true):v.oneCell'=true:=by
 cases v with
 |agg cs=>exact absurd rfl (VR.bM h hx cs).1
 |tuple cs=>exact absurd rfl (VR.bM h hx cs).2
 |_=>rfl
theorem I3{ρ:Ren}:∀{l:List AV} {vs:List Value},ax ρ l vs->(∀x∈l,x.bM=true)->∀v∈vs,v.oneCell'=true
 |[],vs,h,_,v,hv=>by simp only[ax] at h;subst h;cases hv
 |x::l,vs,h,hx,v,hv=>by
  simp only[ax] at h;obtain⟨y,ys,rfl,a,b⟩:=h;rcases Ty.1 hv with rfl|hv
  ·exact abx a<|hx x TA
  ·exact I3 b (fun z hz=>hx z<|TB _ hz) v hv
theorem Row.set{t:Tr AV}{z:List AV}(r:Row ρ c n<|cellAt t z){m:Nat}(hl:ax ρ l vs)(h1:∀x∈l,x.bM=true)(aor:off<=n)(hm:m=max n (off+l.length))(hc:m<=c.size)(ht:m<=top):
 Row ρ ((c.toList.take off++vs++c.toList.drop (off+vs.length)).toArray) m (cellAt (Tr.fill l off t) z):=by
 have hlen:l.length=vs.length:=hl.length;intro i hi;have akc:cellAt (Tr.fill l off t) z i=match (Tr.fill l off t).get i with|some v=>some v|none=>z[i % z.length]? :=rfl
 rw[akc,Tr.OL _ _ _ _ ak ak];by_cases q:off<=i/\i<off+l.length
 ·rw[if_pos q];obtain⟨x,hx⟩:∃x,l[i - off]? =some x:=⟨l[i - off]'ak,TE ak⟩;let⟨v,hv,hr⟩:=hl.get (i - off) x hx;refine⟨x,v,by rw[hx],h1 x<|TY hx,?_,hr⟩;simp only[Vi];rw[Um,UJ xk];simp only[T4,Uq];rw[Vj ak,Ux ak];exact hv
 ·rw[if_neg q];have iN:i<n:=by omega
  let⟨x,v,a1,a2,a3,a4⟩:=r i iN;refine⟨x,v,a1,a2,?_,a4⟩;simp only[Vi];by_cases q2:i<off
  ·rw[Um,Ux xk,U4 q2];simpa using a3
  ·rw[UJ xk];simp only[TM,T4,Uq,Ue];rw[Vj ak];rw[show off+vs.length+(i - (off+vs.length))=i from by omega];simpa using a3
theorem size_set(h:off+vs.length<=c.size):((c.toList.take off++vs++c.toList.drop (off+vs.length)).toArray).size=c.size:=by simp;omega
theorem Od(hb:w.heap[b]? =some (.cells c e (0,0)))(h:off+vs.length<=c.size)(h1:∀v∈vs,v.oneCell'=true):
 (storeCells ⟨b,off,none⟩ vs).run P w= .ok () (w.setRow b (c.toList.take off++vs++c.toList.drop (off+vs.length)).toArray):=by
 have:=run_storeCells_at P b off e vs 0 c w hb (by simpa using h) h1;simpa using this
theorem Nu(fi:bH s)(r:Rel B ρ s.h w)(h:rQ n off l s= .ok u s1)(hn:ρ n=some (b,N))(hl:ax ρ l vs):
 s1.nx=s.nx/\∃w',(storeCells ⟨b,off,none⟩ vs).run P w= .ok () w'/\Rel B ρ s1.h w'/\cI B w w':=by
 cases l with
 |nil=>simp only[ax] at hl;subst hl;have h':M.pure () s= .ok u s1:=h;obtain⟨_,rfl⟩:=bG h';exact⟨rfl,w,rfl,r,cI.refl _ _⟩
 |cons x l=>
  unfold rQ at h;let⟨o,s2,h1,h2⟩:=M.aQ h;let⟨hx,hg,hh,cM⟩:=gr h1;have ht:n<top:=TJ hx fi.nx;let⟨o',hb,hO,hB⟩:=r.block ht hg hn;cases o with
  |cells m t z=>let⟨q1,q2⟩:=dv h2;let⟨q3,q4⟩:=and_true.1 q1;let⟨q5,q6⟩:=and_true.1 q4;let⟨_,_,_,e1,e2⟩:=jP q2;obtain⟨c,e,rfl,hc,hm,row⟩:=hO;have hlen:(x::l).length=vs.length:=hl.length;have h3:off+(x::l).length<=m:=aI.1 q3;have h4:m<=top:=aI.1 q5;have h5:∀y∈x::l,y.bM=true:=fun y hy=>TG.1 q6 y hy;have dq:=Od (P:=P) (off:=off) (vs:=vs) hb ak<|I3 hl h5;let⟨g1,g2⟩:=NF (cs:=(c.toList.take off++vs++c.toList.drop (off+vs.length)).toArray) hb;refine⟨by rw[e2,cM],_,dq,?_,g1.below<|hB rfl⟩;rw[e1,hh];refine r.put ht hg rfl rfl hn rfl g1 g2 ?_;refine⟨_,e,rfl,(size_set ak).trans hc,hm,?_⟩;exact Row.set (ρ:=ρ) (c:=c) (n:=m) row hl h5 ak ak ak h4
  |_=>cases h2
theorem zM{i:Nat}(hl:l.length<=top)(hi:i<l.length):cellAt (Tr.fill l 0 .nil) [] i=l[i]? :=by unfold cellAt;rw[Tr.OL _ _ _ _ ak ak,if_pos ak];rw[Uk,TE hi]
theorem NP(e:TypeId)(rest:List Value)(r:Rel B ρ s.h w)(hf:dU s.nx s1.nx ρ)(h:newRow l s= .ok n s1)(hl:ax ρ l vs):
 n=s.nx/\s1.nx=s.nx+1/\∃σ,Ext s.nx s1.nx ρ σ/\σ n=some (w.heap.size,vs.length+rest.length)/\
  (Go.newRow e (vs++rest).toArray).run P w= .ok ⟨w.heap.size,0,none⟩ {w with heap:=w.heap.push<|.cells (vs++rest).toArray e}/\
  Rel B σ s1.h {w with heap:=w.heap.push<|.cells (vs++rest).toArray e}:=by
 unfold newRow at h;let⟨q1,q2⟩:=dv h;let⟨q3,q4⟩:=and_true.1 q1;obtain⟨ht,rfl,rfl⟩:=v8 q2;have h1:∀y∈l,y.bM=true:=fun y hy=>TG.1 q4 y hy;have h2:l.length<=top:=aI.1 q3;have hlen:=hl.length;have ji:ρ s.nx=none:=hf s.nx (Tz _) (UT _) ak;refine⟨rfl,rfl,eW ρ s.nx (w.heap.size,vs.length+rest.length),Ext.cX ji,jg _ _ _,rfl,?_⟩;refine r.new ht ji rfl ?_;refine⟨_,e,rfl,by simp,by omega,fun i hi=>?_⟩;obtain⟨x,hx⟩:∃x,l[i]? =some x:=⟨l[i]'hi,TE hi⟩;let⟨v,hv,hr⟩:=hl.get i x hx;refine⟨x,v,by rw[zM h2 hi];exact hx,h1 x<|TY hx,?_,hr.mono<|oh ji⟩;simp only[Vi];rw[Ux ak];exact hv
end
section
variable {v:Value} {n off b sh N:Nat} {y a:Operand} {ty e:TypeId}
theorem aaN(ρ:Ren){x:AV}(h:G2 v=some x):VR ρ x v:=by
 unfold G2 at h;split at h<;>first
  |(injection h with h;subst h;simp only[VR];done)
  |(cases h;done)
  |skip
 rename_i len cap;cases hb:(Tx len 0&&Tx cap 0) with
 |false=>rw[hb] at h;cases h
 |true=>
  rw[hb] at h;injection h with h;subst h
  let⟨a,b⟩:=and_true.1 hb;have a':=eP.1 a;have b':=eP.1 b;subst a';subst b';simp[VR]
theorem NG(ρ:Ren):∀{l:List Value} {x:List AV},yb l=some x->ax ρ x l
 |[],x,h=>by simp only[yb] at h;injection h with h;subst h;simp only[ax]
 |v::l,x,h=>by
  simp only[yb] at h;cases e:G2 v with
  |none=>rw[e] at h;cases h
  |some y=>
   simp only[e] at h;cases e2:yb l with
   |none=>simp only[e2] at h;cases h
   |some r=>
    simp only[e2] at h;injection h with h;subst h
    simp only[ax];exact⟨v,l,rfl,aaN ρ e,NG ρ e2⟩
theorem NH(ρ:Ren){x:AV}(h:ofValue v=some x):VR ρ x v:=by
 unfold ofValue at h;split at h
 ·rename_i cs;cases e:yb cs.toList with
  |none=>rw[e] at h;cases h
  |some l=>simp only[e] at h;injection h with h;subst h;simp only[VR];exact⟨cs,rfl,NG ρ e⟩
 ·rename_i cs;cases e:yb cs.toList with
  |none=>rw[e] at h;cases h
  |some l=>simp only[e] at h;injection h with h;subst h;simp only[VR];exact⟨cs,rfl,NG ρ e⟩
 ·exact aaN ρ h
def gG(ρ:Ren):Prop:=∀g,g<fY->∃N,ρ g=some (g,N)
theorem gG.mono{ρ σ:Ren}(h:gG ρ)(l:ρ.le σ):gG σ:=fun g hg=>let ⟨N,e⟩:=h g hg;⟨N,l _ _ e⟩
theorem Eg{ρ:Ren}{nt:Nat}{t:Tr AV}{a:Act}(k:TR ρ nt t a.tmps)(hg:gG ρ){x:Operand}{v:AV}(h:aF t x=some v):VR ρ v<|a.eval x:=by
 cases x with
 |tmp i=>exact k.2 i v h
 |const c=>exact NH ρ h
 |global g=>
  have h': @Bool.rec (fun _=>Option AV) none (some<|.ptr<|some (g,0)) (Tv g fY)=some v:=h;rw[zW] at h';by_cases e:g<fY
  ·rw[if_pos e] at h';injection h' with h';subst h'
   let⟨N,hN⟩:=hg g e;simp only[VR];exact⟨g,N,hN,rfl⟩
  ·rw[if_neg e] at h';cases h'
 |func f=>
  have h':some (AV.func (.func f) [] [])=some v:=h;injection h' with h';subst h'
  simp only[VR,ax];exact⟨rfl, #[], #[],rfl,rfl,rfl⟩
theorem GJ{ρ:Ren}{ev:Operand->Option AV}{ec:Operand->Value}(he:∀x v,ev x=some v->VR ρ v (ec x)):∀{l:List Operand} {vs:List AV},kv ev l=some vs->ax ρ vs (l.map ec)
 |[],vs,h=>by simp only[kv] at h;injection h with h;subst h;simp only[ax,U5]
 |x::l,vs,h=>by
  simp only[kv] at h;cases e:ev x with
  |none=>rw[e] at h;cases h
  |some y=>
   simp only[e] at h;cases e2:kv ev l with
   |none=>simp only[e2] at h;cases h
   |some r=>
    simp only[e2] at h;injection h with h;subst h
    simp only[ax,T0];exact⟨_,_,rfl,he x y e,GJ he e2⟩
section
variable {P:Program} {w:World}
theorem dJ{t:TypeId}{d:TypeDesc}(h:P.underlying t=some d):(underlying t).run P w= .ok d w:=by simp[underlying,h]
theorem vV{t:TypeId}{i:TypeInfo}(h:P.info? t=some i):(typeInfo t).run P w= .ok i w:=by simp[typeInfo,h]
theorem jf{t:TypeId}{k:Nat}(h:eZ P t=some k):(sizeOf t).run P w= .ok k w:=by
 unfold eZ at h;cases e:P.info? t with
 |none=>rw[e] at h;cases h
 |some i=>simp only[e] at h;injection h with h;subst h;simp[sizeOf,vV e]
theorem Ja(ρ:Ren){t:TypeId}{z:AV}(h:qd P t=some z):∃v,(zeroValue t).run P w= .ok v w/\VR ρ z v:=by
 unfold qd at h;cases e:P.info? t with
 |none=>rw[e] at h;cases h
 |some i=>
  simp only[e] at h;cases e2:i.zero with
  |none=>simp only[e2] at h;cases h
  |some v=>simp only[e2] at h;exact⟨v,by simp[zeroValue,vV e,e2],NH ρ h⟩
theorem By{t:TypeId}{b:Bool}(h:rf P t=some b):(isAgg t).run P w= .ok b w:=by
 unfold rf at h;split at h<;>first|(cases h;done)|skip
 ·rename_i fs e;injection h with h;subst h;simp[isAgg,dJ e]
 ·rename_i n m e;injection h with h;subst h;simp[isAgg,dJ e]
 ·rename_i d h1 h2 e;injection h with h;subst h
  simp only[isAgg,TF,dJ e,TH];cases d<;>first|rfl|(exact absurd e<|h1 _)|(exact absurd e<|h2 _ _)
end
theorem Addr.rW(b o j:Nat):(Addr.mk b o none).add j=⟨b,o+j,none⟩:=by
 unfold Addr.add;by_cases q:j=0
 ·subst q;simp
 ·rw[if_neg q]
def gD(P:Program)(B:aE)(ρ:Ren)(s s1:AS)(w:World)(x:AV)(c:Sem Next):Prop:=∃σ w' nv,Ext s.nx s1.nx ρ σ/\c.run P w= .ok nv w'/\(match nv with| .value v=>VR σ x v| .skip=>x=qQ|_=>False)/\Rel B σ s1.h w'/\cI B w w'
def kx(P:Program)(B:aE)(ρ:Ren)(s s1:AS)(w:World)(x:AV)(c:Sem Value):Prop:=∃σ w' v,Ext s.nx s1.nx ρ σ/\c.run P w= .ok v w'/\VR σ x v/\Rel B σ s1.h w'/\cI B w w'
theorem kx.op{P:Program}{B:aE}{ρ:Ren}{s s1:AS}{w:World}{x:AV}{c:Sem Value}(h:kx P B ρ s s1 w x c):gD P B ρ s s1 w x (do pure (.value<|←c)):=by let⟨σ,w',v,a,b,d,e,f⟩:=h;exact⟨σ,w',.value v,a,by simp[b],d,e,f⟩
section
variable {P:Program} {B:aE} {ρ:Ren} {w:World} {s s1:AS}
theorem aaw{t:TypeId}{x:AV}(fi:bH s)(r:Rel B ρ s.h w)(h:loadVar P t n off s= .ok x s1)(hn:ρ n=some (b,N)):
 s1.h=s.h/\s1.nx=s.nx/\∃v,(Go.loadVar t ⟨b,off,none⟩).run P w= .ok v w/\VR ρ x v:=by
 unfold loadVar at h;let⟨ag,h1,h2⟩:=bz h;cases ag with
 |true=>
  let⟨k,h3,h4⟩:=bz h2;let⟨l,s2,h5,h6⟩:=M.aQ h4;obtain⟨rfl,rfl⟩:=bG h6;let⟨a1,a2,a3,a4,vs,a5,a6,_⟩:=zL (P:=P) fi r h5 hn;refine⟨a1,a2,.agg vs.toArray,?_,?_⟩
  ·simp[Go.loadVar,By h1,jf h3,a5]
  ·simp only[VR];exact⟨_,rfl,by simpa using a6⟩
 |false=>
  let⟨l,s2,h5,h6⟩:=M.aQ h2;obtain⟨q,rfl⟩:=ij h6;let⟨a1,a2,a3,a4,vs,a5,a6,a7⟩:=zL (P:=P) fi r h5 hn;unfold one at q;split at q
  ·rename_i y;injection q with q;subst q
   simp only[ax] at a6;obtain⟨v,ys,rfl,hv,rfl⟩:=a6;have hc:=a7 0 v rfl;refine⟨a1,a2,v,?_,hv⟩;simp only[Go.loadVar,TF,By h1,TH];simp[show w.cell? ⟨b,off,none⟩=some v from by simpa using hc]
  ·cases q
theorem aby{t:TypeId}{x:AV}(fi:bH s)(r:Rel B ρ s.h w)(h:yd P t n off s= .ok x s1)(hn:ρ n=some (b,sh)):
 s1.h=s.h/\s1.nx=s.nx/\∃v,(Go.loadVar t ⟨b,sh+off,none⟩).run P w= .ok v w/\VR ρ x v:=by
 unfold yd at h;let⟨ag,h1,h2⟩:=bz h;cases ag with
 |true=>cases h2
 |false=>
  let⟨ob,s2,h3,h4⟩:=M.aQ h2;let⟨hx,hg,hh,cM⟩:=gr h3;have ht:n<top:=TJ hx fi.nx;let⟨o',hb,hO,_⟩:=r.block ht hg hn;cases ob with
  |uD m tr=>
   let⟨q1,q2⟩:=dv h4;obtain⟨q3,rfl⟩:=ij q2;have ct:off<m:=by rw[←blt_eq];exact q1
   obtain⟨c,e,fr,rfl,row⟩:=hO;let⟨y,v,g1,g2,g3,g4⟩:=row off ct;rw[q3] at g1;injection g1 with g1;subst g1
   refine⟨hh,cM,v,?_,g4⟩;have hc:w.cell? ⟨b,sh+off,none⟩=some v:=by simp only[World.cell?,hb];exact g3
   simp only[Go.loadVar,TF,By h1,TH];simp[hc]
  |_=>cases h4
def Ca(B:aE)(Tu:aJ):Prop:=∀(n o k:Nat) (x:AV) (s s1:AS) (ρ:Ren) (w:World),bH s->Rel B ρ s.h w->Tu (.row n o k) [] s= .ok x s1->s1.h=s.h/\s1.nx=s.nx/\∀b sh,ρ (hn n b sh)≠none->∃l vs,x= .agg l/\vs.length=k/\ax ρ l vs/\∃c e fr,w.heap[b]? =some (.cells c e fr)/\∀(j:Nat) (v:Value),vs[j]? =some v->c[sh+o+j]? =some v
theorem abT{t:TypeId}{x:AV}{Tu:aJ}(fx:Ca B Tu)(fi:bH s)(r:Rel B ρ s.h w)(h:wq P t Tu n off s= .ok x s1)(hn:ρ (hn n b sh)≠none):
 s1.h=s.h/\s1.nx=s.nx/\∃v,(Go.loadVar t ⟨b,sh+off,none⟩).run P w= .ok v w/\VR ρ x v:=by
 unfold wq at h;let⟨ag,h1,h2⟩:=bz h;let⟨k,h3,h4⟩:=bz h2;let⟨y,s2,h5,h6⟩:=M.aQ h4;let⟨a1,a2,fx⟩:=fx _ _ _ _ _ _ _ _ fi r h5;obtain⟨l,vs,rfl,a3,a5,c,e,fr,a6,a7⟩:=fx b sh hn;have nj:∀(j:Nat) (v:Value),vs[j]? =some v->w.cell? ⟨b,sh+off+j,none⟩=some v:=fun j v hj=>by simp only[World.cell?,a6];exact a7 j v hj
 cases ag with
 |true=>
  obtain⟨rfl,rfl⟩:=bG h6;have Hl:=JJ (P:=P) (w:=w) a6 a7;rw[a3] at Hl;refine⟨a1,a2,.agg vs.toArray,?_,?_⟩
  ·simp[Go.loadVar,By h1,jf h3,Hl]
  ·simp only[VR];exact⟨_,rfl,by simpa using a5⟩
 |false=>
  obtain⟨q,rfl⟩:=ij h6;unfold one at q;split at q
  ·rename_i y;injection q with q;subst q
   simp only[ax] at a5;obtain⟨v,ys,rfl,hv,rfl⟩:=a5;have hc:=nj 0 v rfl;refine⟨a1,a2,v,?_,hv⟩;simp only[Go.loadVar,TF,By h1,TH];simp[show w.cell? ⟨b,sh+off,none⟩=some v from by simpa using hc]
  ·cases q
theorem abk{t:TypeId}{x:AV}{u:Unit}(fi:bH s)(r:Rel B ρ s.h w)(h:storeVar P t n off x s= .ok u s1)(hn:ρ n=some (b,N))(hv:VR ρ x v):
 s1.nx=s.nx/\∃w',(Go.storeVar t ⟨b,off,none⟩ v).run P w= .ok () w'/\Rel B ρ s1.h w'/\cI B w w':=by
 unfold storeVar at h;let⟨k,h1,h2⟩:=bz h;let⟨h3,h4⟩:=dv h2;let⟨a1,w',a2,a3,a4⟩:=Nu (P:=P) fi r h4 hn hv.cells;refine⟨a1,w',?_,a3,a4⟩;have hk:v.cells.size=k:=by have:=hv.cells.length;rw[eP.1 h3] at this;simpa using this.symm
 simp[Go.storeVar,jf h1,hk,a2]
theorem aaO{x:AV}(e:TypeId)(r:Rel B ρ s.h w)(hf:dU s.nx s1.nx ρ)(h:newRow x.cells s= .ok n s1)(hv:VR ρ x v):
 ∃σ w' b N,Ext s.nx s1.nx ρ σ/\(Go.newVar e v).run P w= .ok ⟨b,0,none⟩ w'/\σ n=some (b,N)/\Rel B σ s1.h w'/\cI B w w':=by
 obtain⟨rfl,h1,σ,h2,h3,h4,h5⟩:=NP (P:=P) e [] r hf h hv.cells;refine⟨σ,_,_,_,h2,?_,h3,h5,(iq.alloc w _).below r.size⟩;have:(v.cells.toList++[]).toArray=v.cells:=by simp
 rw[this] at h4 ⊢;exact h4
end
theorem VR.Eh{ρ:Ren}{x:AV}{i:Int}(h:VR ρ x v)(hi:intOf x=some i):∃k,x= .int k i/\v= .int k i:=by
 cases x<;>simp only[intOf] at hi<;>first|(cases hi;done)|skip
 rename_i k n;injection hi with hi;subst hi
 simp only[VR] at h;exact⟨k,rfl,h⟩
theorem VR.amE{ρ:Ren}{x:AV}{b:Bool}(h:VR ρ x v)(hi:ym x=some b):v= .bool b:=by
 cases x<;>simp only[ym] at hi<;>first|(cases hi;done)|skip
 injection hi with hi;subst hi
 simp only[VR] at h;exact h
theorem VR.ON{ρ:Ren}{x:AV}{a:Nat×Nat}(h:VR ρ x v)(hi:addrOf x=some a):∃b N,ρ a.1=some (b,N)/\v= .pointer (some ⟨b,a.2,none⟩):=by
 unfold addrOf at hi;split at hi
 ·injection hi with hi;subst hi
  rename_i a;let⟨n,o⟩:=a;simp only[VR] at h;exact h
 ·cases hi
section
variable {P:Program} {B:aE} {ρ:Ren} {w:World} {s s1:AS} {x:AV} {Tu:aJ} {t:Tr AV} {ev:Operand->Value} {o:Oper}
theorem alP(he:∀x v,aF t x=some v->VR ρ v (ev x))(r:Rel B ρ s.h w)(h:wJ y Tu t s= .ok x s1)(ho:o.op= .move y\/o.op= .assign y):gD P B ρ s s1 w x<|execOp ev o:=by obtain⟨h1,rfl⟩:=ij (show lift (aF t y) s= .ok x s1 from h);refine⟨ρ,w,.value<|ev y,Ext.refl _ _ _,?_,he y x h1,r,cI.refl _ _⟩;rcases ho with ho|ho<;>simp[execOp,ho]
theorem acL{c b:Operand}(he:∀x v,aF t x=some v->VR ρ v (ev x))(r:Rel B ρ s.h w)(h:Cr c a b Tu t s= .ok x s1)(ho:o.op= .pick c a b):gD P B ρ s s1 w x<|execOp ev o:=by
 unfold Cr at h;let⟨v,h1,h2⟩:=bz h;let⟨q,h3,h4⟩:=bz h2;let⟨va,h5,h6⟩:=bz h4;let⟨vb,h7,h8⟩:=bz h6;have hc:=(he c v h1).amE h3;cases q with
 |true=>obtain⟨rfl,rfl⟩:=bG h8;exact⟨ρ,w,.value<|ev a,Ext.refl _ _ _,by simp[execOp,ho,hc,asBool],he a _ h5,r,cI.refl _ _⟩
 |false=>obtain⟨rfl,rfl⟩:=bG h8;exact⟨ρ,w,.value<|ev b,Ext.refl _ _ _,by simp[execOp,ho,hc,asBool],he b _ h7,r,cI.refl _ _⟩
theorem abU(r:Rel B ρ s.h w)(hf:dU s.nx s1.nx ρ)(h:Kv P e Tu t s= .ok x s1)(ho:o.op= .alloc e):gD P B ρ s s1 w x<|execOp ev o:=by
 unfold Kv at h;let⟨z,h1,h2⟩:=bz h;let⟨n,s2,h3,h4⟩:=M.aQ h2;obtain⟨rfl,rfl⟩:=bG h4;let⟨v,h5,h6⟩:=Ja (P:=P) (w:=w) ρ h1;let⟨σ,w',b,N,a1,a2,a3,a4,a5⟩:=aaO (P:=P) e r hf h3 h6;refine⟨σ,w',.value<|.pointer<|some ⟨b,0,none⟩,a1,?_,?_,a4,a5⟩
 ·simp[execOp,ho,Instr.alloc,h5,a2]
 ·simp only[VR];exact⟨b,N,a3,rfl⟩
theorem adX(he:∀x v,aF t x=some v->VR ρ v (ev x))(r:Rel B ρ s.h w)(hf:dU s.nx s1.nx ρ)(h:CD y Tu t s= .ok x s1)(ho:o.op= .box e y):gD P B ρ s s1 w x<|execOp ev o:=by
 unfold CD at h;let⟨z,h1,h2⟩:=bz h;let⟨n,s2,h3,h4⟩:=M.aQ h2;obtain⟨rfl,rfl⟩:=bG h4;let⟨σ,w',b,N,a1,a2,a3,a4,a5⟩:=aaO (P:=P) e r hf h3<|he y z h1;refine⟨σ,w',.value<|.pointer<|some ⟨b,0,none⟩,a1,?_,?_,a4,a5⟩
 ·simp[execOp,ho,Instr.box,a2]
 ·simp only[VR];exact⟨b,N,a3,rfl⟩
theorem acM(fx:Ca B Tu)(he:∀x v,aF t x=some v->VR ρ v (ev x))(fi:bH s)(r:Rel B ρ s.h w)(h:uE P ty a Tu t s= .ok x s1)(ho:o.op= .load ty a):gD P B ρ s s1 w x<|execOp ev o:=by
 unfold uE at h;let⟨v,h1,h2⟩:=bz h;unfold loadAt at h2;split at h2
 ·rename_i n q;have hv:=he a _ h1;simp only[VR] at hv;let⟨b,sh,h5,h6⟩:=hv;have main:s1.h=s.h/\s1.nx=s.nx/\∃v,(Go.loadVar ty ⟨b,sh+q,none⟩).run P w= .ok v w/\VR ρ x v:=by
   cases hb:Tw top n with
   |true=>rw[hb] at h2;exact abT fx fi r h2<|h5.high<|aI.1 hb
   |false=>rw[hb] at h2;exact aby (P:=P) fi r h2 (h5.low fun q=>by rw[aI.2 q] at hb;cases hb)
  let⟨a1,a2,u,a3,a4⟩:=main;refine⟨ρ,w,.value u,Ext.refl _ _ _,?_,a4,by rw[a1];exact r,cI.refl _ _⟩;simp[execOp,ho,Instr.loadAt,Instr.sureAddr,h6,a3]
 ·let⟨ad,h3,h4⟩:=bz h2;let⟨b,N,h5,h6⟩:=(he a v h1).ON h3;let⟨a1,a2,u,a3,a4⟩:=aaw (P:=P) fi r h4 h5;refine⟨ρ,w,.value u,Ext.refl _ _ _,?_,a4,by rw[a1];exact r,cI.refl _ _⟩;simp[execOp,ho,Instr.loadAt,Instr.sureAddr,h6,a3]
theorem abV(he:∀x v,aF t x=some v->VR ρ v (ev x))(fi:bH s)(r:Rel B ρ s.h w)(h:yp P ty a y Tu t s= .ok x s1)(ho:o.op= .store ty a y):gD P B ρ s s1 w x<|execOp ev o:=by unfold yp at h;let⟨v,h1,h2⟩:=bz h;let⟨ad,h3,h4⟩:=bz h2;let⟨z,h5,h6⟩:=bz h4;let⟨u,s2,h7,h8⟩:=M.aQ h6;obtain⟨rfl,rfl⟩:=bG h8;let⟨b,N,h9,gT⟩:=(he a v h1).ON h3;let⟨a1,w',a2,a3,a4⟩:=abk (P:=P) fi r h7 h9<|he y z h5;refine⟨ρ,w',.skip,Ext.refl _ _ _,?_,rfl,a3,a4⟩;simp[execOp,ho,Instr.storeAt,Instr.sureAddr,gT,a2]
theorem aa9(he:∀x v,aF t x=some v->VR ρ v (ev x))(r:Rel B ρ s.h w)(h:BC y Tu t s= .ok x s1)(ho:o.op= .nilCheck y):gD P B ρ s s1 w x<|execOp ev o:=by
 unfold BC at h;let⟨v,h1,h2⟩:=bz h;let⟨h3,h4⟩:=dv h2;obtain⟨rfl,rfl⟩:=bG h4;have hv:=he y _ h1;refine⟨ρ,w,.value<|ev y,Ext.refl _ _ _,?_,hv,r,cI.refl _ _⟩;simp only[execOp,ho];generalize ev y=v at hv;cases x<;>(try simp only[VR] at hv)<;>(try (subst hv;first|(simp[notNil] at h3;done)|rfl))
 case ptr a=>
  cases a with
  |none=>simp[notNil] at h3
  |some a=>let⟨n,q⟩:=a;simp only[VR] at hv;obtain⟨_,_,_,rfl⟩:=hv;rfl
 case ab n o l=>rcases hv with⟨_,_,_,_,rfl,_⟩|⟨_,_,_,_,rfl,_⟩<;>rfl
 case ql n o=>obtain⟨_,_,_,rfl⟩:=hv;rfl
 case slice a len cap=>
  have:∃p q r,v= .slice p q r:=by
   cases a with
   |none=>cases cap<;>simp only[VR] at hv;exact⟨_,_,_,hv.1⟩
   |some a=>
    let⟨n,q⟩:=a;cases cap<;>simp only[VR] at hv
    ·obtain⟨_,_,_,rfl⟩:=hv;exact⟨_,_,_,rfl⟩
    ·obtain⟨_,_,_,_,rfl,_⟩:=hv;exact⟨_,_,_,rfl⟩
    ·obtain⟨_,_,_,_,_,_,rfl⟩:=hv;exact⟨_,_,_,rfl⟩
  obtain⟨_,_,_,rfl⟩:=this;rfl
 case map a=>
  cases a with
  |none=>simp only[VR] at hv;subst hv;rfl
  |some a=>simp only[VR] at hv;obtain⟨_,_,_,rfl⟩:=hv;rfl
 case func fn f c=>obtain⟨_,_,_,rfl,_⟩:=hv;cases fn<;>first|rfl|(simp[notNil] at h3)
 case yield l=>obtain⟨_,_,_,rfl⟩:=hv;rfl
 case iface ty y=>obtain⟨_,rfl,_⟩:=hv;rfl
 case agg l=>obtain⟨_,rfl,_⟩:=hv;rfl
 case tuple l=>obtain⟨_,rfl,_⟩:=hv;rfl
end
end
section
variable {ty:TypeId} {ps:List<|Nat×AV} {parts:Array<|Nat×Operand}
theorem ax.set{ρ:Ren}:∀{x:List AV} {v:List Value} {i:Nat} {a:AV} {b:Value},ax ρ x v->VR ρ a b->ax ρ (x.set i a) (v.set i b)
 |[],_,_,_,_,h,_=>by simp only[ax] at h;subst h;simp[ax]
 |y::ys,_,0,_,_,h,k=>by simp only[ax] at h;obtain⟨z,zs,rfl,p,q⟩:=h;simp only[List.set_cons_zero,ax];exact⟨_,_,rfl,k,q⟩
 |y::ys,_,i+1,_,_,h,k=>by simp only[ax] at h;obtain⟨z,zs,rfl,p,q⟩:=h;simp only[List.set_cons_succ,ax];exact⟨_,_,rfl,p,q.set k⟩
def wX:List Value->List Value->Nat->List Value
 |cs,[],_=>cs
 |cs,c::l,off=>wX (cs.set off c) l<|off+1
theorem aai{ρ:Ren}:∀{l:List AV} {vs:List Value} {cs:List AV} {ds:List Value} {off:Nat},ax ρ l vs->ax ρ cs ds->ax ρ (setCells cs l off) (wX ds vs off)
 |[],_,_,_,_,h,k=>by simp only[ax] at h;subst h;exact k
 |x::l,_,cs,ds,off,h,k=>by simp only[ax] at h;obtain⟨y,ys,rfl,p,q⟩:=h;show ax ρ (setCells (cs.set off x) l<|off+1)<|wX (ds.set off y) ys<|off+1;exact aai (l:=l) q<|k.set p
theorem alQ(off:Nat):∀(l:List Value) (k:Nat) (cs:Array Value),
 ((l.zipIdx k).foldl (fun(cs:Array Value) (x:Value×Nat)=>cs.setIfInBounds (off+x.2) x.1) cs).toList=wX cs.toList l (off+k)
 |[],k,cs=>rfl
 |c::l,k,cs=>by simp only[List.zipIdx_cons,Un,wX];rw[alQ off l (k+1) _];simp[UU]
def xq(ρ:Ren):List (Nat×AV)->List (Nat×Value)->Prop
 |[],l=>l=[]
 |x::xs,l=>∃y ys,l=y::ys/\x.1=y.1/\VR ρ x.2 y.2/\xq ρ xs ys
theorem Oe{ρ:Ren}{ev:Operand->Option AV}{ec:Operand->Value}(he:∀x v,ev x=some v->VR ρ v (ec x)):∀{l:List<|Nat×Operand} {vs:List<|Nat×AV},wG ev l=some vs->xq ρ vs (l.map fun(i,x)=>(i,ec x))
 |[],vs,h=>by simp only[wG] at h;injection h with h;subst h;simp only[xq,U5]
 |(i,x)::l,vs,h=>by
  simp only[wG] at h;cases e:ev x with
  |none=>rw[e] at h;cases h
  |some y=>
   simp only[e] at h;cases e2:wG ev l with
   |none=>simp only[e2] at h;cases h
   |some r=>
    simp only[e2] at h;injection h with h;subst h
    simp only[xq,T0];exact⟨_,_,rfl,rfl,he x y e,Oe he e2⟩
theorem JK{ρ:Ren}{place:Nat->Option (Nat×Nat)}:∀{ps:List<|Nat×AV} {qs:List<|Nat×Value} {cs l:List AV} {ds:Array Value},xq ρ ps qs->ax ρ cs ds.toList->yn place cs ps=some l->
 ∃es,Instr.fill place ds qs=some es/\ax ρ l es.toList
 |[],qs,cs,l,ds,h,k,e=>by
  simp only[xq] at h;subst h;simp only[yn] at e;injection e with e;subst e
  exact⟨ds,rfl,k⟩
 |(i,v)::ps,qs,cs,l,ds,h,k,e=>by
  simp only[xq] at h;obtain⟨⟨i',v'⟩,ys,rfl,hi,hv,hr⟩:=h;simp only at hi hv;subst hi;simp only[yn] at e;cases e1:place i with
  |none=>simp only[e1] at e;cases e
  |some p=>
   let⟨off,size⟩:=p;simp only[e1] at e;cases e2:(Tx v.cells.length size&&Tw (off+v.cells.length) cs.length) with
   |false=>simp only[e2] at e;cases e
   |true=>
    simp only[e2] at e;let⟨a,b⟩:=and_true.1 e2;have a:=eP.1 a;have b:=aI.1 b;have hc:=hv.cells;have l1:=hc.length;have l2:=k.length;simp only[Uq] at l1 l2;have HG:ax ρ (setCells cs v.cells off) (v'.cells.zipIdx.foldl (fun(cs:Array Value) (x:Value×Nat)=>cs.setIfInBounds (off+x.2) x.1) ds).toList:=by rw[←Vk,Array.toList_zipIdx,alQ off _ 0 ds];exact aai hc k
    let⟨es,g1,g2⟩:=JK hr HG e;refine⟨es,?_,g2⟩;simp only[Instr.fill,e1];rw[if_neg xk];exact g1
theorem aax{P:Program}:∀{fs:List Field} {pl:List<|Nat×Nat},BS P fs=some pl->fs.mapM (fun f=>(P.info? f.type).map fun i=>(f.offset,i.size))=some pl
 |[],pl,h=>by simp only[BS] at h;injection h with h;subst h;rfl
 |f::fs,pl,h=>by
  simp only[BS,eZ] at h;cases e:P.info? f.type with
  |none=>simp only[e] at h;cases h
  |some i=>
   simp only[e] at h;cases e2:BS P fs with
   |none=>simp only[e2] at h;cases h
   |some r=>
    simp only[e2] at h;injection h with h;subst h
    simp[V6,e,aax e2]
theorem abW{P:Program}(ρ:Ren){t:TypeId}{z:AV}(h:qd P t=some z):∃i v,P.info? t=some i/\i.zero=some v/\VR ρ z v:=by
 unfold qd at h;cases e:P.info? t with
 |none=>rw[e] at h;cases h
 |some i=>
  simp only[e] at h;cases e2:i.zero with
  |none=>simp only[e2] at h;cases h
  |some v=>simp only[e2] at h;exact⟨i,v,rfl,e2,NH ρ h⟩
section
variable {P:Program} {B:aE} {ρ:Ren} {w:World} {s s1:AS} {x:AV} {Tu:aJ} {t:Tr AV} {ev:Operand->Value} {o:Oper}
theorem acN{qs:List<|Nat×Value}(hp:xq ρ ps qs)(h:build P ty ps=some x):∃cells,P.built ty qs=some cells/\VR ρ x (.agg cells):=by
 unfold build at h;cases ez:qd P ty with
 |none=>simp only[ez] at h;cases h
 |some z=>
  let⟨i,v,h1,h2,h3⟩:=abW ρ ez;simp only[ez] at h;cases eu:P.underlying ty with
  |none=>simp only[eu] at h;cases h
  |some d=>
   cases d<;>simp only[eu] at h<;>first|(cases h;done)|skip
   case array n e=>
    cases ek:eZ P e with
    |none=>simp only[ek] at h;cases h
    |some k=>
     simp only[ek] at h;cases ef:yn (fun i=>some (i*k,k)) z.cells ps with
     |none=>simp only[ef] at h;cases h
     |some l=>
      simp only[ef] at h;injection h with h;subst h
      let⟨es,g1,g2⟩:=JK hp h3.cells ef;unfold eZ at ek;cases ei:P.info? e with
      |none=>rw[ei] at ek;cases ek
      |some ie=>
       simp only[ei] at ek;injection ek with ek;subst ek
       refine⟨es,?_,by simp only[VR];exact⟨_,rfl,g2⟩⟩;simp only[Program.built,h1,eu,h2,ei];exact g1
   case struct fs=>
    cases ek:BS P fs.toList with
    |none=>simp only[ek] at h;cases h
    |some pl=>
     simp only[ek] at h;cases ef:yn (fun i=>pl[i]?) z.cells ps with
     |none=>simp only[ef] at h;cases h
     |some l=>
      simp only[ef] at h;injection h with h;subst h
      let⟨es,g1,g2⟩:=JK hp h3.cells ef;refine⟨es,?_,by simp only[VR];exact⟨_,rfl,g2⟩⟩;simp only[Program.built,h1,eu,h2,aax ek];simpa using g1
theorem abX(he:∀x v,aF t x=some v->VR ρ v (ev x))(r:Rel B ρ s.h w)(h:B5 P ty parts.toList Tu t s= .ok x s1)(ho:o.op= .build ty parts):gD P B ρ s s1 w x<|execOp ev o:=by
 unfold B5 at h;let⟨ps,h1,h2⟩:=bz h;obtain⟨h3,rfl⟩:=ij h2;have hp:=Oe he h1;let⟨cells,g1,g2⟩:=acN (P:=P) hp h3;refine⟨ρ,w,.value<|.agg cells,Ext.refl _ _ _,?_,g2,r,cI.refl _ _⟩;have C6:P.built ty (parts.map fun(i,x)=>(i,ev x)).toList=some cells:=by rw[VJ];exact g1
 simp only[execOp,ho,TF,run_build w ty _ cells C6,TH];rfl
theorem aaj{z:List AV}{vs:List Value}(h:ax ρ z vs):∀n,ax ρ (GG n z) (Uw n vs).flatten
 |0=>by simp[GG,ax]
 |n+1=>by simp only[GG,List.replicate_succ,T5];exact h.append<|aaj h n
theorem aaP{vs:List Value}:∀(n i:Nat),i<n*vs.length->(Uw n vs).flatten[i]? =vs[i % vs.length]?
 |0,i,h=>by omega
 |n+1,i,h=>by
  rw[List.replicate_succ,T5];by_cases q:i<vs.length
  ·rw[Ux q,Nat.mod_eq_of_lt q]
  ·have hs:(n+1)*vs.length=n*vs.length+vs.length:=by rw[VK]
   rw[UJ ak,aaP n _ ak];rw[←Nat.mod_eq_sub_mod ak]
theorem abY{zs:Array Value}{n:Nat}:(Vu<|n*zs.size).map (fun i=>zs[i % zs.size]!)=(Uw n zs.toList).flatten.toArray:=by
 apply Array.ext_getElem?;intro i;have hlen:(Uw n zs.toList).flatten.length=n*zs.size:=by simp
 by_cases q:i<n*zs.size
 ·have hz:0<zs.size:=by
   rcases Vl zs.size with h0|h0
   ·rw[h0] at q;omega
   ·exact h0
  have hm:i % zs.size<zs.size:=Vv _ hz;have hr:(Uw n zs.toList).flatten.toArray[i]? =zs.toList[i % zs.toList.length]? :=by rw[Vi];exact aaP n i (by rw[Uq];exact q)
  rw[hr];simp[q,getElem!_pos zs (i % zs.size) hm,Ur hm]
 ·have hr:(Uw n zs.toList).flatten.toArray[i]? =none:=by rw[Vi];exact Uf (by rw[hlen];omega)
  rw[hr,VM xk]
theorem aa2{len:Nat}{qs:Array<|Nat×Value}(hp:xq ρ ps qs.toList)(r:Rel B ρ s.h w)(hf:dU s.nx s1.nx ρ)(h:buildSlice P ty len ps s= .ok x s1):
 kx P B ρ s s1 w x (Instr.buildSlice ty len qs):=by
 unfold buildSlice at h;cases eu:P.underlying ty with
 |none=>simp only[eu] at h;cases h
 |some d=>
  cases d<;>simp only[eu] at h<;>first|(cases h;done)|skip
  rename_i e;simp only[bind_eq,afg] at h;let⟨k,s2,h1,h2⟩:=M.aQ h;obtain⟨ze,rfl⟩:=ij h1;let⟨z,s3,h3,h4⟩:=M.aQ h2;obtain⟨RX,rfl⟩:=ij h3;let⟨u,s4,h5,h6⟩:=M.aQ h4;have RY:(Tw (len*k) 1048576&&Tx z.cells.length k)=true/\s4=s3:=by
   cases hb:(Tw (len*k) 1048576&&Tx z.cells.length k) with
   |false=>rw[hb] at h5;cases h5
   |true=>rw[hb] at h5;cases h5;exact⟨rfl,rfl⟩
  obtain⟨RY,rfl⟩:=RY;let⟨l,s5,h7,h8⟩:=M.aQ h6;obtain⟨C7,rfl⟩:=ij h7;let⟨n,s6,h9,gT⟩:=M.aQ h8;obtain⟨rfl,rfl⟩:=bG gT;let⟨a,b⟩:=and_true.1 RY;have a:=aI.1 a;have b:=eP.1 b;let⟨vz,g1,g2⟩:=Ja (P:=P) (w:=w) ρ RX;have hlen:=g2.cells.length;simp only[Uq] at hlen;have Ab:(Vu<|len*k).map (fun i=>(if len*k=0 then(#[]:Array Value) else vz.cells)[i % (if len*k=0 then(#[]:Array Value) else vz.cells).size]!)=(Uw len vz.cells.toList).flatten.toArray:=by
   by_cases q:len*k=0
   ·rw[q];have:(Uw len vz.cells.toList).flatten=[]:=by
     apply List.length_eq_zero_iff.1;have e1:(Uw len vz.cells.toList).flatten.length=len*vz.cells.size:=by simp
     rw[e1, ←hlen,b];exact q
    simp[this]
   ·simp only[if_neg q];have:k=vz.cells.size:=by omega
    subst this;exact abY
  let⟨es,f1,f2⟩:=JK (ds:=(Uw len vz.cells.toList).flatten.toArray) hp (by simpa using aaj g2.cells len) C7;obtain⟨rfl,n1,σ,e1,e2,e3,e4⟩:=NP (P:=P) e [] r hf h9 f2;refine⟨σ,_,.slice (some ⟨w.heap.size,0,none⟩) len len,e1,?_,?_,e4,(iq.alloc w _).below r.size⟩
  ·have hes:(es.toList++[]).toArray=es:=by simp
   rw[hes] at e3 e4 ⊢;have RZ:¬(len*k>2 ^ 24):=by omega
   simp only[Instr.buildSlice,TF,dJ eu,TH,jf ze];rw[if_neg RZ];by_cases q:len*k=0
   ·rw[if_pos q];simp only[if_pos q] at Ab;simp only[TF,TK,TH,Ab,f1,e3]
   ·rw[if_neg q];simp only[if_neg q] at Ab;simp only[TF,TK,TH,g1,Ab,f1,e3]
  ·simp only[VR];exact⟨_,_,e2,rfl⟩
theorem aa0{len:Nat}(he:∀x v,aF t x=some v->VR ρ v (ev x))(r:Rel B ρ s.h w)(hf:dU s.nx s1.nx ρ)(h:Bz P ty len parts.toList Tu t s= .ok x s1)(ho:o.op= .buildSlice ty len parts):gD P B ρ s s1 w x<|execOp ev o:=by
 unfold Bz at h;let⟨ps,h1,h2⟩:=bz h;have hp:xq ρ ps (parts.map fun(i,x)=>(i,ev x)).toList:=by rw[VJ];exact Oe he h1
 have:=(aa2 (P:=P) hp r hf h2).op;simpa only[execOp,ho] using this
end
end
section
variable {P:Program} {B:aE} {ρ:Ren} {w:World} {s s1:AS} {x:AV} {Tu:aJ} {t:Tr AV} {ev:Operand->Value} {o:Oper}
theorem Gq{ty:TypeId}{cs:List AV}{ds:Array Value}{off:Nat}(hc:ax ρ cs ds.toList)(h:wF P ty cs off=some x):∃v,(part ty ds off).run P w= .ok v w/\VR ρ x v:=by
 unfold wF at h;cases ea:rf P ty with
 |none=>simp only[ea] at h;cases h
 |some b=>
  simp only[ea] at h;cases b with
  |true=>
   cases ek:eZ P ty with
   |none=>simp only[ek] at h;cases h
   |some k=>
    simp only[ek] at h;injection h with h;subst h
    refine⟨.agg<|ds.extract off<|off+k,?_,?_⟩
    ·simp[part,By ea,jf ek]
    ·simp only[VR];refine⟨_,rfl,?_⟩;have:(ds.extract off<|off+k).toList=(ds.toList.drop off).take k:=by simp[List.extract]
     rw[this];exact(hc.drop off).take k
  |false=>
   let⟨v,hv,hr⟩:=hc.get off x h;refine⟨v,?_,hr⟩;have kO:ds[off]? =some v:=by simpa using hv
   simp[part,By ea,kO]
theorem bytes_beq(a b:ByteArray):(a == b)=(a.toList == b.toList):=beq_toListBytes a b
theorem Nz{d:Nat}{eq:TypeId->AV->AV->Option Bool}(he:∀ty a b c v u,eq ty a b=some c->VR ρ a v->VR ρ b u->(Op.equalIn d ty v u).run P w= .ok c w){xs ys:List AV}{cs ds:Array Value}(hx:ax ρ xs cs.toList)(hy:ax ρ ys ds.toList):∀{fs:List Field} {b:Bool},eqFields P eq xs ys fs=some b->(Op.eqFields d cs ds fs).run P w= .ok b w
 |[],b,h=>by simp only[eqFields] at h;injection h with h;subst h;rfl
 |f::fs,b,h=>by
  simp only[eqFields] at h;cases en:(f.name == "_") with
  |true=>
   simp only[en] at h;have:¬(f.name≠ "_"):=by simpa using en
   rw[Op.eqFields,if_neg this];exact Nz he hx hy h
  |false=>
   simp only[en] at h;have cz:f.name≠ "_" :=by intro e;rw[e] at en;simp at en
   rw[Op.eqFields,if_pos cz];cases e1:wF P f.type xs f.offset with
   |none=>simp only[e1] at h;cases h
   |some a=>
    cases e2:wF P f.type ys f.offset with
    |none=>simp only[e1,e2] at h;cases h
    |some c=>
     simp only[e1,e2] at h;let⟨v,g1,g2⟩:=Gq (w:=w) hx e1;let⟨u,g3,g4⟩:=Gq (w:=w) hy e2;cases e3:eq f.type a c with
     |none=>simp only[e3] at h;cases h
     |some q=>
      simp only[e3] at h;have g5:=he _ _ _ _ _ _ e3 g2 g4;cases q with
      |false=>injection h with h;subst h;simp[g1,g3,g5]
      |true=>simp only[] at h;simp[g1,g3,g5,Nz he hx hy h]
theorem J8:∀{d:Nat} {ty:TypeId} {a b:AV} {c:Bool} {v u:Value},qy P d ty a b=some c->VR ρ a v->VR ρ b u->(Op.equalIn d ty v u).run P w= .ok c w
 |0,_,_,_,_,_,_,h,_,_=>by simp only[qy] at h;cases h
 |d+1,ty,a,b,c,v,u,h,ha,hb=>by
  simp only[qy] at h;split at h<;>first|(cases h;done)|skip
  ·rename_i p q eu;injection h with h;subst h;simp only[VR] at ha hb;subst ha;subst hb
   simp[Op.equalIn,dJ eu]
  ·rename_i k0 k p k' q eu;simp only[VR] at ha hb;subst ha;subst hb;cases hk:decide (k=k') with
   |false=>rw[hk] at h;cases h
   |true=>rw[hk] at h;injection h with h;subst h;simp[Op.equalIn,dJ eu,of_decide_eq_true hk]
  ·rename_i e q eu;injection h with h;subst h;simp only[VR] at ha;subst ha
   cases q with
   |none=>simp only[VR] at hb;subst hb;simp[Op.equalIn,dJ eu]
   |some q=>let⟨n,i⟩:=q;simp only[VR] at hb;obtain⟨_,_,_,rfl⟩:=hb;simp[Op.equalIn,dJ eu]
  ·rename_i e q eu;injection h with h;subst h;simp only[VR] at hb;subst hb
   let⟨n,i⟩:=q;simp only[VR] at ha;obtain⟨_,_,_,rfl⟩:=ha;simp[Op.equalIn,dJ eu]
  ·rename_i fs xs ys eu;cases hs:P.stoodInHeld ty with
   |true=>rw[hs] at h;cases h
   |false=>
    rw[hs] at h;simp only[VR] at ha hb;obtain⟨cs,rfl,hx⟩:=ha;obtain⟨ds,rfl,hy⟩:=hb;have hf:P.fieldsOf ty=fs:=by simp[Program.fieldsOf,eu]
    rw[run_equalIn_struct w d ty cs ds (by rw[hf];exact eu) hs,hf];exact Nz (fun ty a b c v u e p q=>J8 e p q) hx hy h
  ·rename_i e l1 c1 q l2 c2 eu;injection h with h;subst h
   have:∃k l,v= .slice none k l:=by cases c1<;>simp only[VR] at ha;exact⟨_,_,ha.1⟩
   obtain⟨_,_,rfl⟩:=this;cases q with
   |none=>
    have:∃k l,u= .slice none k l:=by cases c2<;>simp only[VR] at hb;exact⟨_,_,hb.1⟩
    obtain⟨_,_,rfl⟩:=this;simp[Op.equalIn,dJ eu]
   |some q=>
    let⟨n,i⟩:=q;have:∃p k l,u= .slice (some p) k l:=by
     cases c2<;>simp only[VR] at hb
     ·obtain⟨_,_,_,rfl⟩:=hb;exact⟨_,_,_,rfl⟩
     ·obtain⟨_,_,_,_,rfl,_⟩:=hb;exact⟨_,_,_,rfl⟩
     ·obtain⟨_,_,_,_,_,_,rfl⟩:=hb;exact⟨_,_,_,rfl⟩
    obtain⟨_,_,_,rfl⟩:=this;simp[Op.equalIn,dJ eu]
  ·rename_i e q l1 c1 l2 c2 eu;injection h with h;subst h
   have:∃k l,u= .slice none k l:=by cases c2<;>simp only[VR] at hb;exact⟨_,_,hb.1⟩
   obtain⟨_,_,rfl⟩:=this;let⟨n,i⟩:=q;have:∃p k l,v= .slice (some p) k l:=by
    cases c1<;>simp only[VR] at ha
    ·obtain⟨_,_,_,rfl⟩:=ha;exact⟨_,_,_,rfl⟩
    ·obtain⟨_,_,_,_,rfl,_⟩:=ha;exact⟨_,_,_,rfl⟩
    ·obtain⟨_,_,_,_,_,_,rfl⟩:=ha;exact⟨_,_,_,rfl⟩
   obtain⟨_,_,_,rfl⟩:=this;simp[Op.equalIn,dJ eu]
  ·rename_i e n o len l2 c2 eu;have:∃k l,u= .slice none k l:=by cases c2<;>simp only[VR] at hb;exact⟨_,_,hb.1⟩
   obtain⟨_,_,rfl⟩:=this;simp only[VR] at ha;have key:∃a k l,v= .slice a k l/\c=a.isNone:=by
    rcases ha with⟨_,rfl,a0,cc,rfl,hz⟩|⟨b,sh,cc,_,rfl,hc⟩
    ·refine⟨a0,_,_,rfl,?_⟩;unfold Rg at h;simp only at h;split at h
     ·rename_i q;injection h with h;subst h;rw[hz.2.1<|Ug q];rfl
     ·split at h
      ·rename_i q;injection h with h;subst h
       cases a0 with
       |none=>exact absurd rfl<|hz.2.2<|Ug q
       |some _=>rfl
      ·cases h
    ·refine⟨_,_,_,rfl,?_⟩;unfold Rg at h;split at h
     ·split at h
      ·rename_i q;have q:=Ug q;exact absurd q (hc ak).2
      ·split at h
       ·injection h with h;subst h;rfl
       ·cases h
     ·injection h with h;subst h;rfl
   obtain⟨a,_,_,rfl,rfl⟩:=key;cases a<;>simp[Op.equalIn,dJ eu]
theorem acO{op:BinOp}{k:IntKind}{a b:Int}(hs:zU op=false)(h:EL op k a b=some x):∃v,(binOp op 0 (.int k a)<|.int k b).run P w= .ok v w/\VR ρ x v/\∀ty,binOp op ty (.int k a) (.int k b)=binOp op 0 (.int k a) (.int k b):=by
 cases op<;>simp only[EL] at h<;>first
  |(cases h;done)
  |(simp[zU] at hs;done)
  |(injection h with h;subst h;exact⟨_,by simp[binOp,Op.intArith,Op.intBits,Op.intCmp];first|rfl|done,by simp[VR],fun _=>rfl⟩)
  |(cases hd:decide (b=0) with
   |true=>rw[hd] at h;cases h
   |false=>
    rw[hd] at h;injection h with h;subst h
    exact⟨_,by simp[binOp,Op.intDiv,of_decide_eq_false hd];first|rfl|done,by simp[VR],fun _=>rfl⟩)
end
section
variable {ty:TypeId} {v u:Value} {a b:AV} {y:Operand} {c:cx}
section
variable {P:Program} {B:aE} {ρ:Ren} {w:World} {s s1:AS} {x:AV} {Tu:aJ} {t:Tr AV} {ev:Operand->Value} {o:Oper}
theorem abz{op:BinOp}{k k':IntKind}{a b:Int}(hs:zU op=true)(h:Pp op k a b=some x):∃v,(binOp op ty (.int k a)<|.int k' b).run P w= .ok v w/\VR ρ x v:=by
 unfold Pp at h;cases hd:decide (b<0) with
 |true=>rw[hd] at h;cases h
 |false=>
  rw[hd] at h;have hn:=of_decide_eq_false hd;cases op<;>simp only[zU] at hs<;>first|(cases hs;done)|skip
  ·injection h with h;subst h;exact⟨_,by simp[binOp,Op.shift,hn];first|rfl|done,by simp[VR]⟩
  ·injection h with h;subst h;exact⟨_,by simp[binOp,Op.shift,hn];first|rfl|done,by simp[VR]⟩
theorem vX{n i len:Nat}(h:VR ρ (.slice (some (n,i)) len c) v):∃b N q k,ρ n=some (b,N)/\v= .slice (some ⟨b,q,none⟩) len k:=by
 cases c<;>simp only[VR] at h
 ·obtain⟨b,N,e,rfl⟩:=h;exact⟨b,N,_,_,e,rfl⟩
 ·obtain⟨b,N,_,e,rfl,_⟩:=h;exact⟨b,N,_,_,e,rfl⟩
 ·obtain⟨rfl,b,N,_,_,e,rfl⟩:=h;exact⟨b,N,_,_,e,rfl⟩
theorem mf{len:Nat}(h:VR ρ (.slice none len c) v):len=0/\c= .known 0/\v= .slice none 0 0:=by cases c<;>simp only[VR] at h;obtain⟨rfl,rfl,rfl⟩:=h;exact⟨rfl,rfl,rfl⟩
theorem XB{d:Nat}{c:Bool}(h:qy P (d+1) ty a b=some c)(ha:VR ρ a v)(hb:VR ρ b u)(n1:∀k p k' q,a= .int k p->b= .int k' q->False):
 binOp .eql ty v u=(do pure (.bool<|←Op.equal ty v u))/\binOp .neq ty v u=(do pure (.bool<|!(←Op.equal ty v u))):=by
 simp only[qy] at h;split at h<;>first|(cases h;done)|skip
 ·simp only[VR] at ha hb;subst ha;subst hb;exact⟨rfl,rfl⟩
 ·exact(n1 _ _ _ _ rfl rfl).elim
 ·rename_i e q eu;simp only[VR] at ha;subst ha;cases q with
  |none=>simp only[VR] at hb;subst hb;exact⟨rfl,rfl⟩
  |some q=>let⟨n,i⟩:=q;simp only[VR] at hb;obtain⟨_,_,_,rfl⟩:=hb;exact⟨rfl,rfl⟩
 ·rename_i e q eu;simp only[VR] at hb;subst hb;let⟨n,i⟩:=q;simp only[VR] at ha;obtain⟨_,_,_,rfl⟩:=ha;exact⟨rfl,rfl⟩
 ·simp only[VR] at ha hb;obtain⟨_,rfl,_⟩:=ha;obtain⟨_,rfl,_⟩:=hb;exact⟨rfl,rfl⟩
 ·rename_i e l1 c1 q l2 c2 eu;obtain⟨_,_,rfl⟩:=mf ha;cases q with
  |none=>obtain⟨_,_,rfl⟩:=mf hb;exact⟨rfl,rfl⟩
  |some q=>let⟨n,i⟩:=q;obtain⟨_,_,_,_,_,rfl⟩:=vX hb;exact⟨rfl,rfl⟩
 ·rename_i e q l1 c1 l2 c2 eu;obtain⟨_,_,rfl⟩:=mf hb;let⟨n,i⟩:=q;obtain⟨_,_,_,_,_,rfl⟩:=vX ha;exact⟨rfl,rfl⟩
 ·obtain⟨_,_,rfl⟩:=mf hb;simp only[VR] at ha;rcases ha with⟨_,_,_,_,rfl,_⟩|⟨_,_,_,_,rfl,_⟩<;>exact⟨rfl,rfl⟩
theorem abZ{op:BinOp}(h:B4 P op ty a b=some x)(ha:VR ρ a v)(hb:VR ρ b u):∃r,(binOp op ty v u).run P w= .ok r w/\VR ρ x r:=by
 unfold B4 at h;split at h
 ·rename_i k p k' q;simp only[VR] at ha hb;subst ha;subst hb;cases hs:zU op with
  |true=>rw[hs] at h;exact abz hs h
  |false=>
   rw[hs] at h;cases hk:decide (k=k') with
   |false=>rw[hk] at h;cases h
   |true=>rw[hk] at h;have:=of_decide_eq_true hk;subst this;let⟨r,h1,h2,h3⟩:=acO (P:=P) (w:=w) (ρ:=ρ) hs h;exact⟨r,by rw[h3];exact h1,h2⟩
 ·rename_i n1;split at h<;>first|(cases h;done)|skip
  ·cases e:qy P Op.maxDepth ty a b with
   |none=>rw[e] at h;cases h
   |some c=>
    rw[e] at h;injection h with h;subst h
    have e':qy P (9999+1) ty a b=some c:=e;have:=(XB (P:=P) e' ha hb n1).1;have h2:(Op.equal ty v u).run P w= .ok c w:=J8 e ha hb;exact⟨.bool c,by rw[this];simp[h2],by simp[VR]⟩
  ·cases e:qy P Op.maxDepth ty a b with
   |none=>rw[e] at h;cases h
   |some c=>
    rw[e] at h;injection h with h;subst h
    have e':qy P (9999+1) ty a b=some c:=e;have:=(XB (P:=P) e' ha hb n1).2;have h2:(Op.equal ty v u).run P w= .ok c w:=J8 e ha hb;exact⟨.bool !c,by rw[this];simp[h2],by simp[VR]⟩
theorem Eu(ha:VR ρ a .nilIface):a= .nilIface:=by
 cases a<;>(try simp only[VR] at ha)<;>first|rfl|(cases ha;done)|skip
 ·rename_i q;cases q<;>simp only[VR] at ha<;>first|(cases ha;done)|(let⟨_,_,_,e⟩:=ha;cases e)
 ·rename_i q l c;cases q with
  |none=>let⟨_,_,e⟩:=mf ha;cases e
  |some q=>let⟨n,i⟩:=q;let⟨_,_,_,_,_,e⟩:=vX ha;cases e
 ·rcases ha with⟨_,_,_,_,e,_⟩|⟨_,_,_,_,e,_⟩<;>cases e
 ·let⟨_,_,_,e⟩:=ha;cases e
 ·rename_i q;cases q<;>simp only[VR] at ha<;>first|(cases ha;done)|(let⟨_,_,_,e⟩:=ha;cases e)
 ·let⟨_,_,_,e,_⟩:=ha;cases e
 ·let⟨_,_,_,e⟩:=ha;cases e
 ·let⟨_,e,_⟩:=ha;cases e
 ·let⟨_,e,_⟩:=ha;cases e
 ·let⟨_,e,_⟩:=ha;cases e
theorem XC{cs:Array Value}(ha:VR ρ a<|.agg cs):∃l,a= .agg l:=by
 cases a<;>(try simp only[VR] at ha)<;>first|exact⟨_,rfl⟩|(cases ha;done)|skip
 ·rename_i q;cases q<;>simp only[VR] at ha<;>first|(cases ha;done)|(let⟨_,_,_,e⟩:=ha;cases e)
 ·rename_i q l c;cases q with
  |none=>let⟨_,_,e⟩:=mf ha;cases e
  |some q=>let⟨n,i⟩:=q;let⟨_,_,_,_,_,e⟩:=vX ha;cases e
 ·rcases ha with⟨_,_,_,_,e,_⟩|⟨_,_,_,_,e,_⟩<;>cases e
 ·let⟨_,_,_,e⟩:=ha;cases e
 ·rename_i q;cases q<;>simp only[VR] at ha<;>first|(cases ha;done)|(let⟨_,_,_,e⟩:=ha;cases e)
 ·let⟨_,_,_,e,_⟩:=ha;cases e
 ·let⟨_,_,_,e⟩:=ha;cases e
 ·let⟨_,e,_⟩:=ha;cases e
 ·let⟨_,e,_⟩:=ha;cases e
theorem acP{op:BinOp}{z:Operand}(h:J6 P op ty y z a b=true)(ha:VR ρ a v)(hb:VR ρ b u):(eqGuard op ty y z v u).run P w= .ok () w:=by
 have key:(op= .eql\/op= .neq)->Oc P ty y z a b=true:=by rintro (rfl|rfl)<;>exact h
 by_cases fB:op= .eql\/op= .neq
 ·have hk:=key fB;by_cases h1:v= .nilIface/\u= .nilIface
  ·obtain⟨rfl,rfl⟩:=h1;have:=Eu ha;subst this;have:=Eu hb;subst this;have hc:(isConst y||isConst z)=true:=hk;rcases fB with rfl|rfl<;>(cases y<;>cases z<;>first|(simp[isConst] at hc;done)|rfl)
  ·by_cases h2:(∃cs,v= .agg cs)/\(∃ds,u= .agg ds)
   ·obtain⟨⟨cs,rfl⟩,⟨ds,rfl⟩⟩:=h2;obtain⟨l,rfl⟩:=XC ha;obtain⟨m,rfl⟩:=XC hb;have hq:P.eqGuardType P.depth ty=false:=by simpa[Oc] using hk
    exact run_eqGuard_agg w op ty y z cs ds hq
   ·rcases fB with rfl|rfl<;>(cases v<;>cases u<;>first|rfl|(exact absurd ⟨rfl,rfl⟩ h1)|(exact absurd ⟨⟨_,rfl⟩,⟨_,rfl⟩⟩ h2))
 ·cases op<;>first|rfl|(exact absurd (.inl rfl) fB)|(exact absurd (.inr rfl) fB)
theorem adY{op:BinOp}{yt:TypeId}{z:Operand}(he:∀x v,aF t x=some v->VR ρ v (ev x))(r:Rel B ρ s.h w)(h:uS P op ty y z Tu t s= .ok x s1)(ho:o.op= .binOp op ty y z yt):gD P B ρ s s1 w x<|execOp ev o:=by unfold uS at h;let⟨a,h1,h2⟩:=bz h;let⟨b,h3,h4⟩:=bz h2;let⟨h5,h6⟩:=dv h4;obtain⟨h7,rfl⟩:=ij h6;let⟨q,g1,g2⟩:=abZ (P:=P) (w:=w) h7 (he y a h1)<|he z b h3;have g3:=acP (P:=P) (w:=w) h5 (he y a h1)<|he z b h3;refine⟨ρ,w,.value q,Ext.refl _ _ _,?_,g2,r,cI.refl _ _⟩;simp[execOp,ho,g3,g1]
theorem afh{op:UnOp}(he:∀x v,aF t x=some v->VR ρ v (ev x))(r:Rel B ρ s.h w)(h:C3 op y Tu t s= .ok x s1)(ho:o.op= .unOp op ty y):gD P B ρ s s1 w x<|execOp ev o:=by
 unfold C3 at h;let⟨a,h1,h2⟩:=bz h;obtain⟨h3,rfl⟩:=ij h2;have ha:=he y a h1;have:∃q,(Op.unary op<|ev y).run P w= .ok q w/\VR ρ x q:=by
  unfold Yg at h3;split at h3<;>first|(cases h3;done)|skip
  ·rename_i c;simp only[VR] at ha;rw[ha];injection h3 with h3;subst h3
   exact⟨_,rfl,by simp[VR]⟩
 let⟨q,g1,g2⟩:=this;refine⟨ρ,w,.value q,Ext.refl _ _ _,?_,g2,r,cI.refl _ _⟩;simp[execOp,ho,g1]
end
end
section
variable {y:Operand} {ty:TypeId} {n f i:Nat}
section
variable {P:Program} {B:aE} {ρ:Ren} {w:World} {s s1:AS} {x:AV} {Tu:aJ} {t:Tr AV} {ev:Operand->Value} {o:Oper}
theorem Nt{size m len:Nat}{c:cx}(h:c≠ .lost):firstCells size n (.slice (some (m,i)) len c)=jz m i (n*size):=by cases len<;>cases c<;>first|rfl|exact absurd rfl h
theorem abl{src dst:TypeId}(he:∀x v,aF t x=some v->VR ρ v (ev x))(fi:bH s)(r:Rel B ρ s.h w)(h:BJ P src dst y Tu t s= .ok x s1)(ho:o.op= .convert src dst y):gD P B ρ s s1 w x<|execOp ev o:=by
 unfold BJ at h;let⟨a,h1,h2⟩:=bz h;have ha:=he y a h1;have plain:lift (OM P src dst a) s= .ok x s1->gD P B ρ s s1 w x (execOp ev o):=by
  intro h2;obtain⟨h3,rfl⟩:=ij h2;have:∃q,(convert src dst<|ev y).run P w= .ok q w/\VR ρ x q:=by
   unfold OM at h3;split at h3<;>first|(cases h3;done)|skip
   ·rename_i d k n e1 e2 _;simp only[VR] at ha;rw[ha];injection h3 with h3;subst h3
    refine⟨.int d<|d.wrap n,?_,by simp[VR]⟩;simp[convert,dJ e1,dJ e2,Conv.intToInt]
  let⟨q,g1,g2⟩:=this;exact⟨ρ,w,.value q,Ext.refl _ _ _,by simp[execOp,ho,g1],g2,r,cI.refl _ _⟩
 cases a<;>first|exact plain h2|(have h':(R.bad:R AV)= .ok x s1:=h2;cases h')
theorem aaY(he:∀x v,aF t x=some v->VR ρ v (ev x))(r:Rel B ρ s.h w)(h:DP P ty y Tu t s= .ok x s1)(ho:o.op= .makeInterface ty y):gD P B ρ s s1 w x<|execOp ev o:=by have h':(R.bad:R AV)= .ok x s1:=h;cases h'
theorem aba{fn:Fn}{first captured:Array Operand}(he:∀x v,aF t x=some v->VR ρ v (ev x))(r:Rel B ρ s.h w)(h:BD fn first.toList captured.toList Tu t s= .ok x s1)(ho:o.op= .makeFunc fn first captured):gD P B ρ s s1 w x<|execOp ev o:=by
 unfold BD at h;let⟨h0,h1⟩:=dv h;let⟨f,h2,h3⟩:=bz h1;let⟨c,h4,h5⟩:=bz h3;obtain⟨rfl,rfl⟩:=bG h5;refine⟨ρ,w,.value<|.func fn (first.map ev)<|captured.map ev,Ext.refl _ _ _,?_,?_,r,cI.refl _ _⟩
 ·simp[execOp,ho,Instr.makeFunc]
 ·simp only[VR];refine⟨by cases fn<;>first|rfl|(simp[YN] at h0),_,_,rfl,?_,?_⟩
  ·rw[VJ];exact GJ he h2
  ·rw[VJ];exact GJ he h4
theorem anu(r:Rel B ρ s.h w)(hf:dU s.nx s1.nx ρ)(h:gQ (.map [] 0) s= .ok n s1):
 n=s.nx/\Ext s.nx s1.nx ρ (eW ρ n (w.heap.size,0))/\Rel B (eW ρ n (w.heap.size,0)) s1.h {w with heap:=w.heap.push<|.map #[] 0}:=by
 obtain⟨ht,rfl,rfl⟩:=v8 h;have ji:ρ s.nx=none:=hf s.nx (Tz _) (UT _) ak;refine⟨rfl,Ext.cX ji,r.new ht ji rfl ⟨#[],rfl,rfl,rfl⟩⟩
theorem abm{q:Option Operand}(he:∀x v,aF t x=some v->VR ρ v (ev x))(r:Rel B ρ s.h w)(hf:dU s.nx s1.nx ρ)(h:BK P ty q Tu t s= .ok x s1)(ho:o.op= .makeMap ty q):gD P B ρ s s1 w x<|execOp ev o:=by
 unfold BK at h;let⟨u,s2,h1,h2⟩:=M.aQ h;let⟨n,s3,h3,h4⟩:=M.aQ h2;obtain⟨rfl,rfl⟩:=bG h4;cases q with
 |none=>
  obtain⟨_,rfl⟩:=bG h1;obtain⟨rfl,e1,e2⟩:=anu r hf h3;refine⟨_,_,.value<|.map<|some w.heap.size,e1,?_,?_,e2,(iq.alloc w _).below r.size⟩
  ·simp[execOp,ho,Instr.makeMap]
  ·simp only[VR];exact⟨_,_,jg _ _ _,rfl⟩
 |some y=>
  let⟨v,g1,g2⟩:=bz h1;let⟨i,g3,g4⟩:=bz g2;let⟨k,_,hv⟩:=(he y v g1).Eh g3;have:Lm P ty=true/\s2=s:=by
   cases hb:Lm P ty with
   |false=>rw[hb] at g4;cases g4
   |true=>rw[hb] at g4;cases g4;exact⟨rfl,rfl⟩
  obtain⟨hm,rfl⟩:=this;obtain⟨rfl,e1,e2⟩:=anu r hf h3;refine⟨_,_,.value<|.map<|some w.heap.size,e1,?_,?_,e2,(iq.alloc w _).below r.size⟩
  ·unfold Lm at hm;split at hm
   ·rename_i a b e;simp[execOp,ho,Instr.makeMap,dJ e,hv,asInt,asIntOf]
   ·cases hm
  ·simp only[VR];exact⟨_,_,jg _ _ _,rfl⟩
theorem zN{i:Int}{len:Nat}(h:within i len=some n):i=(n:Int)/\n<len:=by
 unfold within at h;cases i with
 |negSucc k=>cases h
 |ofNat k=>
  cases hb:Tv k len with
  |false=>simp only[hb] at h;cases h
  |true=>
   simp only[hb] at h;injection h with h;subst h
   exact⟨rfl,by rw[←blt_eq];exact hb⟩
theorem abb{a:AV}{v:Value}(ha:VR ρ a v)(h:fieldAddr P ty a f=some x):∃q,(Instr.fieldAt ty v f).run P w= .ok q w/\VR ρ x q:=by
 unfold fieldAddr at h;split at h<;>first|(cases h;done)|skip
 rename_i fs e;cases e1:fs[f]? with
 |none=>rw[e1] at h;cases h
 |some fd=>
  simp only[e1] at h;cases e2:eZ P fd.type with
  |none=>rw[e2] at h;cases h
  |some k=>
   simp only[e2] at h;cases e3:Tx k 0 with
   |true=>rw[e3] at h;cases h
   |false=>
    simp only[e3] at h;have hk:¬k=0:=by rw[←beq_eq,e3];simp
    split at h<;>first|(cases h;done)|skip
    ·rename_i n i;injection h with h;subst h
     simp only[VR] at ha;obtain⟨b,N,e4,rfl⟩:=ha;refine⟨.pointer<|some ⟨b,i+fd.offset,none⟩,?_,?_⟩
     ·simp[Instr.fieldAt,dJ e,e1,Instr.sureAddr,fieldPlace,jf e2,hk,Addr.rW]
     ·simp only[VR];exact⟨b,N,e4,rfl⟩
    ·rename_i n i;injection h with h;subst h
     simp only[VR] at ha;obtain⟨b,sh,e4,rfl⟩:=ha;refine⟨.pointer<|some ⟨b,sh+i+fd.offset,none⟩,?_,?_⟩
     ·simp[Instr.fieldAt,dJ e,e1,Instr.sureAddr,fieldPlace,jf e2,hk,Addr.rW]
     ·simp only[VR];exact⟨b,sh,e4,by rw[UU]⟩
theorem aa3(he:∀x v,aF t x=some v->VR ρ v (ev x))(r:Rel B ρ s.h w)(h:BA P ty y f Tu t s= .ok x s1)(ho:o.op= .fieldAddr ty y f):gD P B ρ s s1 w x<|execOp ev o:=by unfold BA at h;let⟨a,h1,h2⟩:=bz h;obtain⟨h3,rfl⟩:=ij h2;let⟨q,g1,g2⟩:=abb (P:=P) (w:=w) (he y a h1) h3;exact⟨ρ,w,.value q,Ext.refl _ _ _,by simp[execOp,ho,g1],g2,r,cI.refl _ _⟩
theorem ab0(he:∀x v,aF t x=some v->VR ρ v (ev x))(r:Rel B ρ s.h w)(h:B6 P ty y f Tu t s= .ok x s1)(ho:o.op= .field ty y f):gD P B ρ s s1 w x<|execOp ev o:=by
 unfold B6 at h;let⟨a,h1,h2⟩:=bz h;obtain⟨h3,rfl⟩:=ij h2;have ha:=he y a h1;unfold ans at h3;split at h3<;>first|(cases h3;done)|skip
 rename_i fs cs e;cases e1:fs[f]? with
 |none=>rw[e1] at h3;cases h3
 |some fd=>simp only[e1] at h3;simp only[VR] at ha;let⟨ds,hv,hc⟩:=ha;let⟨q,g1,g2⟩:=Gq (P:=P) (w:=w) hc h3;exact⟨ρ,w,.value q,Ext.refl _ _ _,by simp[execOp,ho,hv,Instr.field,dJ e,e1,asAgg,g1],g2,r,cI.refl _ _⟩
theorem aa4{z:Operand}(he:∀x v,aF t x=some v->VR ρ v (ev x))(r:Rel B ρ s.h w)(h:qL P ty y z Tu t s= .ok x s1)(ho:o.op= .indexAddr ty y z):gD P B ρ s s1 w x<|execOp ev o:=by
 unfold qL at h;let⟨a,h1,h2⟩:=bz h;let⟨ix,h3,h4⟩:=bz h2;obtain⟨h5,rfl⟩:=ij h4;have ha:=he y a h1;unfold indexAddr at h5;cases ei:intOf ix with
 |none=>rw[ei] at h5;cases h5
 |some i=>
  simp only[ei] at h5;let⟨k,_,hi⟩:=(he z ix h3).Eh ei;have:∃q,(Instr.indexAt ty (ev y)<|ev z).run P w= .ok q w/\VR ρ x q:=by
   rw[hi];split at h5<;>first|(cases h5;done)|skip
   ·rename_i len e n off e1;split at h5<;>first|(cases h5;done)|skip
    rename_i j m e2 e3;injection h5 with h5;subst h5
    obtain⟨rfl,hj⟩:=zN e2;simp only[VR] at ha;let⟨b,N,e4,hv⟩:=ha;rw[hv];refine⟨.pointer<|some ⟨b,off+j*m,none⟩,?_,by simp only[VR];exact⟨b,N,e4,rfl⟩⟩;have hr:(0:Int)<=(j:Int)/\(j:Int)<(len:Int):=⟨by omega,by omega⟩;simp[Instr.indexAt,asIntOf,dJ e1,Instr.sureAddr,hr,jf e3,Addr.rW,hj]
   ·rename_i e n off len cap e1;split at h5<;>first|(cases h5;done)|skip
    rename_i j m e2 e3;injection h5 with h5;subst h5
    obtain⟨rfl,hj⟩:=zN e2;have hr:(0:Int)<=(j:Int)/\(j:Int)<(len:Int):=⟨by omega,by omega⟩;have fin:∀b N c,ρ n=some (b,N)->ev y= .slice (some ⟨b,off,none⟩) len c->∃q,(Instr.indexAt ty (ev y)<|.int k j).run P w= .ok q w/\VR ρ (.ptr<|some (n,off+j*m)) q:=by intro b N c e4 hv;rw[hv];refine⟨.pointer<|some ⟨b,off+j*m,none⟩,?_,by simp only[VR];exact⟨b,N,e4,rfl⟩⟩;simp[Instr.indexAt,asIntOf,dJ e1,hr,jf e3,Addr.rW,hj]
    cases cap with
    |known c=>simp only[VR] at ha;let⟨b,N,e4,hv⟩:=ha;exact fin b N c e4 hv
    |au lo e5=>simp only[VR] at ha;let⟨b,N,c,e4,hv,_⟩:=ha;exact fin b N c e4 hv
    |lost=>simp only[VR] at ha;omega
   ·rename_i e n off len e1;split at h5<;>first|(cases h5;done)|skip
    rename_i j m e2 e3;injection h5 with h5;subst h5
    obtain⟨rfl,hj⟩:=zN e2;have hr:(0:Int)<=(j:Int)/\(j:Int)<(len:Int):=⟨by omega,by omega⟩;simp only[VR] at ha;rcases ha with⟨_,h0,_⟩|⟨b,sh,c,e4,hv,_⟩
    ·omega
    rw[hv];refine⟨.pointer<|some ⟨b,sh+(off+j*m),none⟩,?_,by simp only[VR];exact⟨b,sh,e4,rfl⟩⟩;simp[Instr.indexAt,asIntOf,dJ e1,hr,jf e3,Addr.rW,hj,UU]
  let⟨q,g1,g2⟩:=this;exact⟨ρ,w,.value q,Ext.refl _ _ _,by simp[execOp,ho,g1],g2,r,cI.refl _ _⟩
theorem ab1{z:Operand}(he:∀x v,aF t x=some v->VR ρ v (ev x))(r:Rel B ρ s.h w)(h:B7 P ty y z Tu t s= .ok x s1)(ho:o.op= .index ty y z):gD P B ρ s s1 w x<|execOp ev o:=by
 unfold B7 at h;let⟨a,h1,h2⟩:=bz h;let⟨ix,h3,h4⟩:=bz h2;obtain⟨h5,rfl⟩:=ij h4;have ha:=he y a h1;unfold indexOf at h5;cases ei:intOf ix with
 |none=>rw[ei] at h5;cases h5
 |some i=>
  simp only[ei] at h5;let⟨k,_,hi⟩:=(he z ix h3).Eh ei;have:∃q,(Instr.index ty (ev y)<|ev z).run P w= .ok q w/\VR ρ x q:=by
   rw[hi];split at h5<;>first|(cases h5;done)|skip
   ·rename_i len e cs e1;split at h5<;>first|(cases h5;done)|skip
    rename_i j m e2 e3;obtain⟨rfl,hj⟩:=zN e2;simp only[VR] at ha;let⟨ds,hv,hc⟩:=ha;rw[hv];let⟨q,g1,g2⟩:=Gq (P:=P) (w:=w) hc h5;have hr:(0:Int)<=(j:Int)/\(j:Int)<(len:Int):=⟨by omega,by omega⟩;refine⟨q,?_,g2⟩;simp[Instr.index,asIntOf,dJ e1,hr,jf e3,g1,hj]
   ·rename_i q e1;split at h5<;>first|(cases h5;done)|skip
    rename_i j e2;split at h5<;>first|(cases h5;done)|skip
    rename_i b e3;injection h5 with h5;subst h5
    obtain⟨rfl,hj⟩:=zN e2;simp only[VR] at ha;rw[ha];refine⟨.int .u8 b.toNat,?_,by simp[VR]⟩;have hb:q[j]? =some b:=by let⟨⟨l⟩⟩:=q;have ZE:l[j]? =some b:=e3;have ct:j<l.length:=(TZ.1 ZE).1;have:(ByteArray.mk ⟨l⟩)[j]? =some ((ByteArray.mk ⟨l⟩)[j]'hj):=getElem?_pos _ _ _;rw[this];have hx:(ByteArray.mk ⟨l⟩)[j]'hj=l[j]'ct:=rfl;rw[hx, ←TE ct,ZE]
    simp[Instr.index,asIntOf,dJ e1,hb]
  let⟨q,g1,g2⟩:=this;exact⟨ρ,w,.value q,Ext.refl _ _ _,by simp[execOp,ho,g1],g2,r,cI.refl _ _⟩
theorem abA{xt:TypeId}{ok:Bool}(he:∀x v,aF t x=some v->VR ρ v (ev x))(r:Rel B ρ s.h w)(h:Ee P ty ok y Tu t s= .ok x s1)(ho:o.op= .typeAssert y xt ty ok):gD P B ρ s s1 w x<|execOp ev o:=by have h':(R.bad:R AV)= .ok x s1:=h;cases h'
theorem abn(he:∀x v,aF t x=some v->VR ρ v (ev x))(r:Rel B ρ s.h w)(h:BL y i Tu t s= .ok x s1)(ho:o.op= .extract y i):gD P B ρ s s1 w x<|execOp ev o:=by
 unfold BL at h;let⟨a,h1,h2⟩:=bz h;obtain⟨h3,rfl⟩:=ij h2;have ha:=he y a h1;unfold partOf at h3;split at h3<;>first|(cases h3;done)|skip
 rename_i l;simp only[VR] at ha;let⟨vs,hv,hl⟩:=ha;let⟨q,g1,g2⟩:=hl.get i x h3;have C6:vs[i]? =some q:=by simpa using g1
 exact⟨ρ,w,.value q,Ext.refl _ _ _,by simp[execOp,ho,hv,Instr.extract,C6],g2,r,cI.refl _ _⟩
end
end
section
variable {v:Value} {ty:TypeId} {real l hh:Nat} {oT iO FG:Option Value} {lo:Option AV} {a:AV} {b:Bool}
section
variable {P:Program} {B:aE} {ρ:Ren} {w:World} {s s1:AS} {x:AV} {Tu:aJ} {t:Tr AV} {ev:Operand->Value} {o:Oper}
def qo(ρ:Ren):Option AV->Option Value->Prop
 |none,v=>v=none
 |some a,v=>∃u,v=some u/\VR ρ a u
theorem Pt(he:∀x v,aF t x=some v->VR ρ v (ev x)){y:Option Operand}{a:Option AV}(h:opt (aF t) y=some a):qo ρ a<|y.map ev:=by
 cases y with
 |none=>simp only[opt] at h;injection h with h;subst h;rfl
 |some y=>
  simp only[opt] at h;cases e:aF t y with
  |none=>rw[e] at h;cases h
  |some v=>simp only[e] at h;injection h with h;subst h;exact⟨_,rfl,he y v e⟩
theorem Gr{uR n d:Nat}{code:BoundsCode}(ha:VR ρ a v)(h:bound (some a) uR d=some n)(hr:uR<=real):(Instr.sliceBound v real code).run P w= .ok n w/\n<=uR:=by
 unfold bound at h;cases e:intOf a with
 |none=>simp only[e] at h;cases h
 |some i=>simp only[e] at h;obtain⟨k,_,rfl⟩:=ha.Eh e;obtain⟨rfl,hn⟩:=zN h;have hr:(0:Int)<=(n:Int)/\(n:Int)<=(real:Int):=⟨by omega,by omega⟩;refine⟨?_,by omega⟩;simp only[Instr.sliceBound,asIntOf,TF,TK,TH,if_pos hr,Uy]
theorem Jc{hi:Option AV}{len low:Nat}(h1:qo ρ lo oT)(h2:qo ρ hi iO)(hr:low<=real)(e1:bound hi low len=some hh)(e2:bound lo hh 0=some l):
 (Instr.sliceBounds b len real oT iO none).run P w= .ok (l,hh,real) w/\(hi=none/\hh=len\/hh<=low)/\l<=hh:=by
 have g1:∃c,(match iO,(none:Option Value) with
  |some v,some _=>Instr.sliceBound v real .slice3B
  |some v,none=>Instr.sliceBound v real c
  |none,none=>pure len
  |none,some _=>stuck "Slice: max without high" :Sem Nat).run P w= .ok hh w/\c=(if b then BoundsCode.sliceAcap else .sliceAlen)/\(hi=none/\hh=len\/hh<=low):=by
  cases hi with
  |none=>
   simp only[qo] at h2;subst h2;simp only[bound] at e1;injection e1 with e1;subst e1
   exact⟨_,rfl,rfl,.inl ⟨rfl,rfl⟩⟩
  |some a=>obtain⟨u,rfl,hu⟩:=h2;let⟨a1,a2⟩:=Gr (P:=P) (w:=w) (code:=if b then BoundsCode.sliceAcap else .sliceAlen) hu e1 hr;exact⟨_,a1,rfl,.inr a2⟩
 obtain⟨c,g1,rfl,g2⟩:=g1;have g3:(match oT with
  |some v=>Instr.sliceBound v hh (if(none:Option Value).isSome then BoundsCode.slice3C else .sliceB)
  |none=>pure 0:Sem Nat).run P w= .ok l w/\l<=hh:=by
  cases lo with
  |none=>
   simp only[qo] at h1;subst h1;simp only[bound] at e2;injection e2 with e2;subst e2
   exact⟨rfl,TN _⟩
  |some a=>obtain⟨u,rfl,hu⟩:=h1;exact Gr (P:=P) (w:=w) hu e2<|Tz _
 refine⟨?_,g2,g3.2⟩;cases iO<;>cases oT<;>simp_all [Instr.sliceBounds]
theorem aay{len low m:Nat}{c:AV}(h1:qo ρ lo oT)(h2:qo ρ (some a) iO)(h3:qo ρ (some c) FG)(hr:low<=real)(e0:bound (some c) low 0=some m)(e1:bound (some a) m 0=some hh)(e2:bound lo hh 0=some l):
 (Instr.sliceBounds b len real oT iO FG).run P w= .ok (l,hh,m) w/\l<=hh/\hh<=m/\m<=low:=by
 obtain⟨u,rfl,hu⟩:=h2;obtain⟨v,rfl,hv⟩:=h3;have q0:=fun code=>Gr (P:=P) (w:=w) (code:=code) hv e0 hr;have q1:=fun code=>Gr (P:=P) (w:=w) (code:=code) hu e1<|Tz _;cases lo with
 |none=>
  simp only[qo] at h1;subst h1;simp only[bound] at e2;injection e2 with e2;subst e2
  refine⟨?_,TN _,(q1 .slice3B).2,(q0 .slice3B).2⟩;simp[Instr.sliceBounds,(q0 _).1,(q1 _).1]
 |some y=>obtain⟨z,rfl,hz⟩:=h1;have q2:=fun code=>Gr (P:=P) (w:=w) (code:=code) hz e2<|Tz _;refine⟨?_,(q2 .slice3B).2,(q1 .slice3B).2,(q0 .slice3B).2⟩;simp[Instr.sliceBounds,(q0 _).1,(q1 _).1,(q2 _).1]
theorem abc{e:TypeId}{lo hi mx:Option Value}(h:P.underlying ty=some (.slice e)):(Instr.sliceAt ty v lo hi mx).run P w=(Instr.slice ty v lo hi mx).run P w:=by simp[Instr.sliceAt,dJ h]
theorem abB{hi mx : Option AV}(ha:VR ρ a v)(h1:qo ρ lo oT)(h2:qo ρ hi iO)(h3:qo ρ mx FG)(h:yc P ty a lo hi mx=some x):
    ∃q,(Instr.sliceAt ty v oT iO FG).run P w= .ok q w/\VR ρ x q:=by
  unfold yc at h
  split at h<;>first|(cases h;done)|skip
  · 
    rename_i e p len cap e1
    cases ek:eZ P e with
    |none=>simp only[ek] at h;cases h
    | some k=>
      simp only[ek] at h
      rw[abc e1]
      have hv:∃q real,v= .slice q len real/\jR len cap<=real/\len<=real\/∃q real,v= .slice q len real/\cap= .known real:=by
        cases p with
        |none=>obtain⟨rfl,rfl,rfl⟩:=mf ha;exact⟨none,0,.inr ⟨none,0,rfl,rfl⟩⟩
        | some p=>
          let⟨n,i⟩:=p
          cases cap with
          |known c=>simp only[VR] at ha;obtain⟨b,N,_,rfl⟩:=ha;exact⟨none,0,.inr ⟨_,c,rfl,rfl⟩⟩
          |au b0 e0=>simp only[VR] at ha;obtain⟨b,N,c,_,rfl,h5,h6,_⟩:=ha;exact⟨_,c,.inl ⟨rfl,h5,h6⟩⟩
          |lost=>simp only[VR] at ha;obtain⟨rfl,b,N,_,c,_,rfl⟩:=ha;exact⟨_,c,.inl ⟨rfl,by simp[jR],TN _⟩⟩
      clear hv
      cases mx with
      | some mx =>
        simp only[] at h
        have hl:cap≠ .lost:=by intro e2;subst e2;cases h
        have h':slice3 k p (jR len cap) lo hi mx=some x:=by
          cases cap<;>first|exact h|exact absurd rfl hl
        clear h
        unfold slice3 at h'
        cases e2:bound (some mx) (jR len cap) 0 with
        |none=>simp only[e2] at h';cases h'
        | some m=>
          simp only[e2] at h'
          cases hi with
          |none=>cases h'
          | some hi =>
            simp only[] at h'
            cases e3:bound (some hi) m 0 with
            |none=>simp only[e3] at h';cases h'
            | some hh=>
              simp only[e3] at h'
              cases e4:bound lo hh 0 with
              |none=>simp only[e4] at h';cases h'
              | some l=>
                simp only[e4] at h'
                cases p with
                | none=>
                  obtain⟨rfl,rfl,rfl⟩:=mf ha
                  simp only[] at h';injection h' with h';subst h'
                  let⟨g1,g2,g3,g4⟩:=aay (P:=P) (w:=w) (b:=true) (len:=0) (real:=0) h1 h2 h3 (Tz _) e2 e3 e4
                  have g4':m<=0:=g4
                  refine⟨.slice none 0 0,?_,?_⟩
                  · have z1:m=0:=by omega
                    have z2:hh=0:=by omega
                    have z3:l=0:=by omega
                    subst z1;subst z2;subst z3
                    simp[Instr.slice,dJ e1,g1,jf ek]
                  · have z1:hh - l=0:=by omega
                    have z2:m - l=0:=by omega
                    rw[z1,z2];simp[VR]
                | some p=>
                  let⟨n,i⟩:=p
                  simp only[] at h'
                  have hv:∃b N real,ρ n=some (b,N)/\v= .slice (some ⟨b,i,none⟩) len real/\jR len cap<=real:=by
                    cases cap with
                    |known c=>simp only[VR] at ha;obtain⟨b,N,e5,rfl⟩:=ha;exact⟨b,N,c,e5,rfl,by simp[jR]⟩
                    |au b0 e0=>simp only[VR] at ha;obtain⟨b,N,c,e5,rfl,h5,h6,_⟩:=ha;exact⟨b,N,c,e5,rfl,h5⟩
                    |lost=>exact absurd rfl hl
                  obtain⟨b,N,real,e5,rfl,aio⟩:=hv
                  let⟨g1,g2,g3,g4⟩:=aay (P:=P) (w:=w) (b:=true) (len:=len) h1 h2 h3 aio e2 e3 e4
                  cases e6:Tx m l with
                  | true=>
                    simp only[e6] at h';injection h' with h';subst h'
                    have C8:=eP.1 e6
                    refine⟨.slice (some ⟨b,i,none⟩) (hh - l)<|m - l,?_,by simp only[VR];exact⟨b,N,e5,rfl⟩⟩
                    subst C8;simp[Instr.slice,dJ e1,g1,jf ek]
                  | false=>
                    simp only[e6] at h';injection h' with h';subst h'
                    have cz:¬m=l:=by rw[←beq_eq,e6];simp
                    refine⟨.slice (some ⟨b,i+l*k,none⟩) (hh - l)<|m - l,?_,by simp only[VR];exact⟨b,N,e5,rfl⟩⟩
                    simp[Instr.slice,dJ e1,g1,jf ek,cz,Addr.rW]
      | none=>
        simp only[qo] at h3;subst h3
        simp only[] at h
        cases e3:bound hi (jR len cap) len with
        |none=>simp only[e3] at h;cases h
        | some hh =>
          simp only[e3] at h
          cases e4:bound lo hh 0 with
          |none=>simp only[e4] at h;cases h
          | some l=>
            simp only[e4] at h
            cases p with
            | none=>
              obtain⟨rfl,rfl,rfl⟩:=mf ha
              simp only[] at h;injection h with h;subst h
              let⟨g1,g2,g3⟩:=Jc (P:=P) (w:=w) (b:=true) (len:=0) (real:=0) h1 h2 (Tz _) e3 e4
              have z1:hh=0:=by rcases g2 with⟨_,e⟩|e<;>omega
              have z2:l=0:=by omega
              subst z1;subst z2
              refine⟨.slice none 0 0,?_,by simp[VR]⟩
              simp[Instr.slice,dJ e1,g1,jf ek]
            | some p=>
              let⟨n,i⟩:=p
              cases cap with
              | known c=>
                simp only[] at h
                simp only[VR] at ha;obtain⟨b,N,e5,rfl⟩:=ha
                let⟨g1,g2,g3⟩:=Jc (P:=P) (w:=w) (b:=true) (len:=len) (real:=c) h1 h2 (by simp[jR]) e3 e4
                cases e6:Tx c l with
                | true=>
                  simp only[e6] at h;injection h with h;subst h
                  have C8:=eP.1 e6
                  refine⟨.slice (some ⟨b,i,none⟩) (hh - l)<|c - l,?_,by simp only[VR];exact⟨b,N,e5,rfl⟩⟩
                  subst C8;simp[Instr.slice,dJ e1,g1,jf ek]
                | false=>
                  simp only[e6] at h;injection h with h;subst h
                  have cz:¬c=l:=by rw[←beq_eq,e6];simp
                  refine⟨.slice (some ⟨b,i+l*k,none⟩) (hh - l)<|c - l,?_,by simp only[VR];exact⟨b,N,e5,rfl⟩⟩
                  simp[Instr.slice,dJ e1,g1,jf ek,cz,Addr.rW]
              | au b0 e0=>
                simp only[] at h
                simp only[VR] at ha;obtain⟨b,N,c,e5,rfl,h5,h6,h7⟩:=ha
                let⟨g1,g2,g3⟩:=Jc (P:=P) (w:=w) (b:=true) (len:=len) (real:=c) h1 h2 h5 e3 e4
                have hhc:hh<=c:=by
                  rcases g2 with⟨_,e⟩|e
                  · omega
                  · have e':hh<=b0:=e
                    omega
                cases e6:Tx l 0 with
                | true=>
                  simp only[e6] at h;injection h with h;subst h
                  have C8:=eP.1 e6
                  refine⟨.slice (some ⟨b,i,none⟩) (hh - l)<|c - 0,?_,?_⟩
                  · subst C8;by_cases q:c=0
                    · subst q;simp[Instr.slice,dJ e1,g1,jf ek]
                    · simp[Instr.slice,dJ e1,g1,jf ek,q,Addr.rW]
                  · simp only[VR];exact⟨b,N,c,e5,rfl,h5,by omega,h7⟩
                |false=>simp only[e6] at h;cases h
              |lost=>cases h
  · -- an array,by its address
    rename_i len e n i e1
    cases ek:eZ P e with
    |none=>simp only[ek] at h;cases h
    | some k=>
      simp only[ek] at h
      cases mx with
      |some _=>cases h
      | none=>
        simp only[qo] at h3;subst h3
        simp only[] at h
        cases e2:bound hi len len with
        |none=>simp only[e2] at h;cases h
        | some hh=>
          simp only[e2] at h
          cases e3:bound lo hh 0 with
          |none=>simp only[e3] at h;cases h
          | some l=>
            simp only[e3] at h
            simp only[VR] at ha;obtain⟨b,N,e5,rfl⟩:=ha
            let⟨g1,g2,g3⟩:=Jc (P:=P) (w:=w) (b:=false) h1 h2 (Tz _) e2 e3
            cases e6:Tx len l with
            | true=>
              simp only[e6] at h;injection h with h;subst h
              have C8:=eP.1 e6
              refine⟨.slice (some ⟨b,i,none⟩) (hh - l)<|len - l,?_,by simp only[VR];exact⟨b,N,e5,rfl⟩⟩
              subst C8;simp[Instr.sliceAt,dJ e1,Instr.sureAddr,g1,jf ek]
            | false=>
              simp only[e6] at h;injection h with h;subst h
              have cz:¬len=l:=by rw[←beq_eq,e6];simp
              refine⟨.slice (some ⟨b,i+l*k,none⟩) (hh - l)<|len - l,?_,by simp only[VR];exact⟨b,N,e5,rfl⟩⟩
              simp[Instr.sliceAt,dJ e1,Instr.sureAddr,g1,jf ek,cz,Addr.rW]
theorem ab2{y:Operand}{lo hi mx:Option Operand}(he:∀x v,aF t x=some v->VR ρ v (ev x))(r:Rel B ρ s.h w)(h:uj P ty y lo hi mx Tu t s= .ok x s1)(ho:o.op= .slice ty y lo hi mx):gD P B ρ s s1 w x<|execOp ev o:=by unfold uj at h;let⟨a,h1,h2⟩:=bz h;let⟨oT,h3,h4⟩:=bz h2;let⟨iO,h5,h6⟩:=bz h4;let⟨FG,h7,h8⟩:=bz h6;obtain⟨h9,rfl⟩:=ij h8;let⟨q,g1,g2⟩:=abB (P:=P) (w:=w) (he y a h1) (Pt he h3) (Pt he h5) (Pt he h7) h9;exact⟨ρ,w,.value q,Ext.refl _ _ _,by simp[execOp,ho,g1],g2,r,cI.refl _ _⟩
end
end
section
variable {n:Nat} {v:Value} {ty:TypeId} {a:AV}
theorem Rel.XD{B:aE}{ρ:Ren}{h:Tr ah}{w w':World}(r:Rel B ρ h w){p:ah}{b N:Nat}(ht:n<top)(hg:h.get n=some p)(hp:p.plain=true)(cL:p.dA=false)(hr:ρ n=some (b,N))(hw:wu b w w'):
 Rel B ρ (h.put n none) w'/\∀m q,m<top->(h.put n none).get m=some q->∀M,ρ m≠some (b,M):=by
 have g:∀m,m<top->(h.put n none).get m=if m=n then none else h.get m:=fun m hm=>Tr.dy _ _ _ _ ht hm
 have mq:∀m q,m<top->(h.put n none).get m=some q->∀M,ρ m≠some (b,M):=by
  intro m q hm hq M e;rw[g m hm] at hq;by_cases e2:m=n
  ·rw[if_pos e2] at hq;cases hq
  ·rw[if_neg e2] at hq;exact e2<|r.one m n q p b M N hm ht hq hg (.inr cL) e hr
 refine⟨?_,mq⟩;have hl:h.get n≠some .iT:=by intro e;rw[hg] at e;cases e;simp[ah.plain] at hp
 have r2:=r.drop ht hl;refine⟨?_,r2.one,?_,by rw[hw.size];exact r.size,r2.lone,r.fz.of (Ren.le_refl _) (fun b1 _ hn=>hw.block b1 fun e=>hn n p N ht hg cL (by rw[e];exact hr)) (fun b1 _ hn=>hn.sub fun m q hm hq iy=>by
  rw[g m hm] at hq;by_cases e:m=n
  ·rw[if_pos e] at hq;cases hq
  ·rw[if_neg e] at hq;exact⟨q,hq,iy⟩),r.tk.of (Ren.le_refl _) (fun m q hm hq _=>by
  rw[g m hm] at hq;by_cases e:m=n
  ·rw[if_pos e] at hq;cases hq
  ·rw[if_neg e] at hq;exact hq) (by rw[hw.size];exact Tz _) (fun b1 _ hn=>hw.block b1 fun e=>hn n p N ht hg cL (by rw[e];exact hr)) (fun b1 _ hn=>hn.sub fun m q hm hq iy=>by
  rw[g m hm] at hq;by_cases e:m=n
  ·rw[if_pos e] at hq;cases hq
  ·rw[if_neg e] at hq;exact⟨q,hq,iy⟩) fun _ _ _ _ _ e=>e⟩
 ·intro m q hm hq;let⟨b1,N1,o1,h1,h2,h3,h4⟩:=r2.is m q hm hq;exact⟨b1,N1,o1,h1,(hw.block b1 fun e=>mq m q hm hq N1<|by rw[h1,e]).trans h2,h3,h4⟩
 ·intro i m es ex left cur hi hq;let⟨hm,fE,u⟩:=r2.iter i m es ex left cur hi hq;exact⟨hm,fE,u.nr hw.block (mq i _ hi hq)<|mq m _ hm fE⟩
section
variable {P:Program} {B:aE} {ρ:Ren} {w:World} {s s1:AS} {x:AV} {Tu:aJ} {t:Tr AV} {ev:Operand->Value} {o:Oper}
theorem wrap_small(h:n<2 ^ 63):IntKind.i64.wrap (n:Int)=n:=by exact IntWalk.i64_in _ ak
theorem abd{l c:AV}{vl vc:Value}(hl:VR ρ l vl)(hc:VR ρ c vc)(r:Rel B ρ s.h w)(hf:dU s.nx s1.nx ρ)(h:makeSlice P ty l c s= .ok x s1):kx P B ρ s s1 w x<|Instr.makeSlice ty vl vc:=by
 unfold makeSlice at h;cases e1:P.underlying ty with
 |none=>simp only[e1] at h;cases h
 |some d=>
  cases d<;>simp only[e1] at h<;>first|(cases h;done)|skip
  rename_i e;let⟨il,h1,h⟩:=bz h;let⟨ic,h2,h⟩:=bz h;let⟨i,h3,h⟩:=bz h;let⟨nc,h4,h⟩:=bz h;let⟨nl,h5,h⟩:=bz h;let⟨z,h6,h⟩:=bz h;let⟨h7,h⟩:=dv h;let⟨n,s2,h8,h9⟩:=M.aQ h;obtain⟨rfl,rfl⟩:=bG h9;let⟨q1,q2⟩:=and_true.1 h7;let⟨q3,q4⟩:=and_true.1 q2;let⟨q5,q6⟩:=and_true.1 q4;have q1:=aI.1 q1;have q3:=aI.1 q3;obtain⟨k1,_,rfl⟩:=hl.Eh h1;obtain⟨k2,_,rfl⟩:=hc.Eh h2;obtain⟨rfl,j8⟩:=zN h4;obtain⟨rfl,MF⟩:=zN h5;unfold room at j8 q1;let⟨vz,g1,g2⟩:=Ja (P:=P) (w:=w) ρ h6;obtain⟨ht,rfl,rfl⟩:=v8 h8;have ji:ρ s.nx=none:=hf s.nx (Tz _) (UT _) ak;have hz:=g2.cells.length;simp only[Uq] at hz;have Ab:(Vu<|nc*i.size).map (fun j=>(if nc*i.size=0 then(#[]:Array Value) else vz.cells)[j % (if nc*i.size=0 then(#[]:Array Value) else vz.cells).size]!)=(Vu<|nc*i.size).map (fun j=>vz.cells[j % vz.cells.size]!):=by
   by_cases q:nc*i.size=0
   ·rw[q];simp
   ·simp only[if_neg q]
  refine⟨eW ρ s.nx (w.heap.size,nc*i.size),{w with heap:=w.heap.push<|.cells ((Vu<|nc*i.size).map fun j=>vz.cells[j % vz.cells.size]!) e},.slice (some ⟨w.heap.size,0,none⟩) nl nc,Ext.cX ji,?_,?_,?_,(iq.alloc w _).below r.size⟩
  ·have w1:IntKind.i64.wrap (nl:Int)=nl:=wrap_small ak;have w2:IntKind.i64.wrap (nc:Int)=nc:=wrap_small ak;have t1:(decide ((nc:Int)<0)||decide ((i.bytes:Int)*(nc:Int)>2 ^ 48))=false:=by
    have:¬((nc:Int)<0):=by omega
    have h2:¬((i.bytes:Int)*(nc:Int)>2 ^ 48):=by
     have:(i.bytes:Int)*(nc:Int)=((nc*i.bytes:Nat):Int):=by rw[UQ];simp
     rw[this];omega
    rw[decide_eq_false this,decide_eq_false h2];rfl
   have t2:¬((nl:Int)<0):=by omega
   have t3:¬((nl:Int)>(nc:Int)):=by omega
   simp only[Instr.makeSlice,TF,dJ e1,TH,asInt,asIntOf,TK,vV h3,w1,w2];have aoj:¬(((decide ((nc:Int)<0)||decide ((i.bytes:Int)*(nc:Int)>2 ^ 48))=true)\/((nl:Int)<0)\/((nl:Int)>(nc:Int))):=by
    rw[t1];rintro (e|e|e)
    ·cases e
    ·exact t2 e
    ·exact t3 e
   have agR:((decide ((nc:Int)<0)||decide ((i.bytes:Int)*(nc:Int)>2 ^ 48))||decide ((nl:Int)<0)||decide ((nl:Int)>(nc:Int)))=false:=by rw[t1];simp[t2,t3]
   simp only[agR,UK,if_false,TF,run_askRoom,TH,Uy,jf (show eZ P e=some i.size by simp[eZ,h3])];by_cases q:nc*i.size=0
   ·simp only[if_pos q] at Ab ⊢;simp only[TF,TK,TH,Ab];rfl
   ·simp only[if_neg q] at Ab ⊢;simp only[TF,g1,TK,TH];rfl
  ·simp only[VR];exact⟨_,_,jg _ _ _,rfl⟩
  ·refine r.new ht ji rfl ⟨_,e,rfl,by simp,Tz _,fun j hj=>?_⟩;have aip:0<z.cells.length:=by
    rcases Vl z.cells.length with h0|h0
    ·rw[h0] at q5;have:Tx (nc*i.size) 0=true:=by
      cases hb:Tx (nc*i.size) 0 with
      |true=>rfl
      |false=>rw[hb] at q5;simp at q5
     have:=eP.1 this;omega
    ·exact h0
   have hm:j % z.cells.length<z.cells.length:=Vv _ aip;obtain⟨a,ha⟩:∃a,z.cells[j % z.cells.length]? =some a:=⟨_,TE hm⟩;let⟨v,hv,hr⟩:=g2.cells.get _ a ha;refine⟨a,v,?_,TG.1 q6 a<|TY ha,?_,hr.mono<|oh ji⟩
   ·unfold cellAt;rw[Tr.get_nil];exact ha
   ·have da:j % vz.cells.size<vz.cells.size:=by rw[←hz];exact hm
    have kO:vz.cells[j % vz.cells.size]? =some v:=by rw[←hz];simpa using hv
    simp only[Array.getElem?_map,Array.getElem?_range,if_pos hj,Uj];rw[getElem!_pos vz.cells _ da];rw[Ur da] at kO;injection kO with kO;rw[kO]
theorem aa5{l c:Operand}(he:∀x v,aF t x=some v->VR ρ v (ev x))(r:Rel B ρ s.h w)(hf:dU s.nx s1.nx ρ)(h:xS P ty l c Tu t s= .ok x s1)(ho:o.op= .makeSlice ty l c):gD P B ρ s s1 w x<|execOp ev o:=by unfold xS at h;let⟨a,h1,h2⟩:=bz h;let⟨b,h3,h4⟩:=bz h2;have:=(abd (P:=P) (he l a h1) (he c b h3) r hf h4).op;simpa only[execOp,ho] using this
theorem I0{size:Nat}{l:List AV}(ha:VR ρ a v)(fi:bH s)(r:Rel B ρ s.h w)(h:firstCells size n a s= .ok l s1):
 s1.h=s.h/\s1.nx=s.nx/\∃arr:Array Value,(Builtin.firstCells size n v).run P w= .ok arr w/\ax ρ l arr.toList:=by
 cases a with
 |slice p len cap=>
  cases p with
  |none=>
   have h':(M.pure []:M<|List AV) s= .ok l s1:=by cases len<;>cases cap<;>exact h
   obtain⟨rfl,rfl⟩:=bG h';obtain⟨rfl,rfl,rfl⟩:=mf ha;exact⟨rfl,rfl, #[],rfl,by simp[ax]⟩
  |some p=>
   let⟨m,i⟩:=p;by_cases hc:cap= .lost
   ·subst hc;simp only[VR] at ha;obtain⟨rfl,b,N,q,c,e,rfl⟩:=ha;let⟨h1,h2⟩:=dv (show(aG (Tx n 0) <| (M.pure []:M<|List AV)) s= .ok l s1 from h);obtain⟨rfl,rfl⟩:=bG h2;have:=eP.1 h1;subst this;refine⟨rfl,rfl, #[],?_,by simp[ax]⟩;simp[Builtin.firstCells,loadCells,loadCellsFrom]
   ·rw[Nt hc] at h;have:∃b N c,ρ m=some (b,N)/\v= .slice (some ⟨b,i,none⟩) len c:=by
     cases cap with
     |known c=>simp only[VR] at ha;obtain⟨b,N,e,rfl⟩:=ha;exact⟨b,N,c,e,rfl⟩
     |au lo e0=>simp only[VR] at ha;obtain⟨b,N,c,e,rfl,_⟩:=ha;exact⟨b,N,c,e,rfl⟩
     |lost=>exact absurd rfl hc
    obtain⟨b,N,c,e,rfl⟩:=this;let⟨a1,a2,a3,a4,vs,a5,a6,_⟩:=zL (P:=P) fi r h e;exact⟨a1,a2,vs.toArray,by simpa[Builtin.firstCells] using a5,by simpa using a6⟩
 |_=>cases h
theorem alR(ha:VR ρ a v)(h:lenOf a=some n):(Builtin.lenOf v).run P w= .ok n w:=by
 cases a with
 |slice p len cap=>
  simp only[lenOf] at h;injection h with h;subst h
  cases p with
  |none=>obtain⟨rfl,rfl,rfl⟩:=mf ha;rfl
  |some p=>let⟨m,i⟩:=p;obtain⟨_,_,_,_,_,rfl⟩:=vX ha;rfl
 |_=>cases h
theorem alS(nJ:Nat):∀(k c:Nat),c<=nJ->Builtin.growBy nJ k c<=nJ+nJ+800
 |0,c,h=>by simp only[Builtin.growBy];omega
 |k+1,c,h=>by
  simp only[Builtin.growBy];by_cases q:c>=nJ
  ·rw[if_pos q];omega
  ·rw[if_neg q];by_cases q2:c+(c+768) / 4<=nJ
   ·exact alS nJ k _ q2
   ·have:∀k,Builtin.growBy nJ k (c+(c+768) / 4)=c+(c+768) / 4:=by
     intro k;cases k with
     |zero=>rfl
     |succ k=>simp only[Builtin.growBy];rw[if_pos ak]
    rw[this];omega
theorem ab3{nJ dM:Nat}(h:dM<nJ):Builtin.nextslicecap nJ dM<=2*nJ+4096:=by
 unfold Builtin.nextslicecap;split
 ·omega
 ·split
  ·omega
  ·have:=alS nJ 4 dM ak;omega
theorem adZ{elem:TypeId}{i:TypeInfo}{sv xv:Value}{base:Option Addr}{len c:Nat}{xt:Option TypeId}{args:Array TypeId}{sT:TypeId}{dM new:Array Value}{zv:Value}(hs:sv= .slice base len c)(hu:P.underlying sT=some (.slice elem))(zf:args[0]? =some sT)(vu:args[1]? =xt)(hx:pZ P xt=true)(hi:P.info? elem=some i)(hn:(Builtin.lenOf xv).run P w= .ok n w)(ct:c<len+n)(uH:2*(len+n)*i.bytes+4096*i.bytes<=room)(hb:i.bytes≠0)(ho:(Builtin.firstCells i.size len sv).run P {w with drawn:=w.drawn+1}= .ok dM {w with drawn:=w.drawn+1})(hw:(Builtin.firstCells i.size n xv).run P {w with drawn:=w.drawn+1}= .ok new {w with drawn:=w.drawn+1})(hz:∀w':World,(zeroValue elem).run P w'= .ok zv w'):
    ∃ rest:List Value,∃nc,len+n<=nc/\rest.length=(nc - (len+n))*zv.cells.size/\(Builtin.append_ args 0 #[sv,xv]).run P w=
      .ok (.slice (some ⟨w.heap.size,0,none⟩) (len+n) nc) {w with heap:=w.heap.push<|.cells ((dM++new).toList++rest).toArray elem,drawn:=w.drawn+1}:=by
  subst hs
  have LV:=ab3 ct
  have hmul:Builtin.nextslicecap (len+n) c*i.bytes<=2 ^ 48:=by
    have:=UW i.bytes LV
    have e:(2*(len+n)+4096)*i.bytes=2*(len+n)*i.bytes+4096*i.bytes:=Uo _ _ _
    unfold room at uH
    omega
  have hnc:∃nc,len+n<=nc/\(choose<|.appendCap (len+n) c elem).run P w= .ok nc {w with drawn:=w.drawn+1}:=by
    refine⟨len+n+w.tape w.drawn (.appendCap (len+n) c elem) % (2 ^ 63 - (len+n)),by omega,?_⟩
    rw[run_choose]
    simp[Question.forced,Question.cut]
  let⟨nc,akd,YR⟩:=hnc
  refine⟨(Builtin.zeroCells zv.cells<|nc - (len+n)).toList,nc,akd,by simp[Builtin.zeroCells],?_⟩
  have hle:¬(len+n<=c):=by omega
  have ZF:¬(((len+n:Nat):Int)>IntKind.i64.max/\(False\/i.bytes=0)):=by
    rintro ⟨_,e|e⟩
    · cases e
    · exact hb e
  have YS:¬(Builtin.nextslicecap (len+n) c*i.bytes>2 ^ 48):=by omega
  have fx:∀w':World,(Go.newRow elem<|dM++new++Builtin.zeroCells zv.cells (nc - (len+n))).run P w'= .ok ⟨w'.heap.size,0,none⟩ {w' with heap:=w'.heap.push<|.cells ((dM++new).toList++(Builtin.zeroCells zv.cells<|nc - (len+n)).toList).toArray elem}:=by
    intro w'
    have e:((dM++new).toList++(Builtin.zeroCells zv.cells<|nc - (len+n)).toList).toArray=dM++new++Builtin.zeroCells zv.cells (nc - (len+n)):=by
      rw[←Vx]
    rw[e];rfl
  unfold pZ at hx
  cases xt with
  | none=>
    simp only[Builtin.append_,zf,vu]
    simp only[show(#[Value.slice base len c,xv]:Array Value)[0]? =some (.slice base len c) from rfl,show(#[Value.slice base len c,xv]:Array Value)[1]? =some xv from rfl]
    simp only[TF,dJ hu,TH,jf (show eZ P elem=some i.size by simp[eZ,hi]),TK,UK,if_false,hn,if_neg hle,vV hi]
    rw[if_neg ZF]
    simp only[TF,vV hi,TH]
    rw[if_neg YS]
    simp only[TF,YR,TH,vV hi,run_askRoom,ho,Vy,if_true,hw,hz,fx,TK]
  | some q =>
    simp only at hx
    cases e:P.underlying q with
    |none=>rw[e] at hx;cases hx
    | some d=>
      rw[e] at hx
      cases d<;>first
        |(cases hx;done)
        | (simp only[Builtin.append_,zf,vu]
           simp only[show(#[Value.slice base len c,xv]:Array Value)[0]? =some (.slice base len c) from rfl,show(#[Value.slice base len c,xv]:Array Value)[1]? =some xv from rfl]
           simp only[TF,dJ hu,TH,jf (show eZ P elem=some i.size by simp[eZ,hi]),TK,dJ e,UK,if_false,hn,if_neg hle,vV hi]
           rw[if_neg ZF]
           simp only[TF,vV hi,TH]
           rw[if_neg YS]
           simp only[TF,YR,TH,vV hi,run_askRoom,ho,Vy,if_true,hw,hz,fx,TK])
end
end
section
variable {n size c:Nat} {elem sT:TypeId} {xv:Value} {xt:Option TypeId} {l:List AV} {i:TypeInfo} {base:Option Addr} {args:Array TypeId}
section
variable {P:Program} {B:aE} {ρ:Ren} {w:World} {s s1:AS} {x:AV} {Tu:aJ} {t:Tr AV} {ev:Operand->Value} {o:Oper}
theorem J9{len:Nat}{new:Array Value}{w':World}(hu:P.underlying sT=some (.slice elem))(zf:args[0]? =some sT)(vu:args[1]? =xt)(hx:pZ P xt=true)(hi:eZ P elem=some size)(hn:(Builtin.lenOf xv).run P w= .ok n w)(hle:len+n<=c)(hw:(Builtin.firstCells size n xv).run P w= .ok new w)(dq:(match base with|some a=>storeCells (a.add<|len*size) new.toList|none=>pure ()).run P w= .ok () w'):
    (Builtin.append_ args 0 #[.slice base len c,xv]).run P w= .ok (.slice base (len+n) c) w':=by
  have ji:base=none->w'=w:=by
    intro e;subst e
    have ake:Result.ok () w= .ok () w':=dq
    injection ake with _ e;exact e.symm
  unfold pZ at hx
  cases xt with
  | none=>
    simp only[Builtin.append_,zf,vu]
    simp only[show(#[Value.slice base len c,xv]:Array Value)[0]? =some (.slice base len c) from rfl,show(#[Value.slice base len c,xv]:Array Value)[1]? =some xv from rfl]
    simp only[TF,dJ hu,TH,jf hi,TK,UK,if_false,hn,if_pos hle,Vy,if_true,hw]
    cases base with
    |none=>simp only[TK,ji rfl]
    |some a=>simp only[TF,show(storeCells (a.add<|len*size) new.toList).run P w= .ok () w' from dq,TH,TK]
  | some q =>
    simp only at hx
    cases e:P.underlying q with
    |none=>rw[e] at hx;cases hx
    | some d=>
      rw[e] at hx
      cases d<;>first
        |(cases hx;done)
        | (simp only[Builtin.append_,zf,vu]
           simp only[show(#[Value.slice base len c,xv]:Array Value)[0]? =some (.slice base len c) from rfl,show(#[Value.slice base len c,xv]:Array Value)[1]? =some xv from rfl]
           simp only[TF,dJ hu,TH,jf hi,TK,dJ e,UK,if_false,hn,if_pos hle,Vy,if_true,hw]
           cases base with
           |none=>simp only[TK,ji rfl]
           |some a=>simp only[TF,show(storeCells (a.add<|len*size) new.toList).run P w= .ok () w' from dq,TH,TK])
theorem abe(hi:P.info? elem=some i)(h:tX i=true):∃zv,(∀w':World,(zeroValue elem).run P w'= .ok zv w')/\zv.cells.size=i.size:=by
 unfold tX at h;cases e:i.zero with
 |none=>rw[e] at h;cases h
 |some v=>rw[e] at h;exact⟨v,fun w'=>by simp[zeroValue,vV hi,e],eP.1 h⟩
theorem abf{off:Nat}{vs:List Value}{u:Unit}{b N:Nat}(fi:bH s)(r:Rel B ρ s.h w)(hN:off+l.length<=N)(h:xU n off l s= .ok u s1)(hn:ρ n=some (b,N))(hl:ax ρ l vs):
 s1.nx=s.nx/\∃w',(storeCells ⟨b,off,none⟩ vs).run P w= .ok () w'/\Rel B ρ s1.h w'/\cI B w w':=by
 cases l with
 |nil=>simp only[ax] at hl;subst hl;have h':M.pure () s= .ok u s1:=h;obtain⟨_,rfl⟩:=bG h';exact⟨rfl,w,rfl,r,cI.refl _ _⟩
 |cons x l=>
  unfold xU at h;let⟨o,s2,h1,h2⟩:=M.aQ h;let⟨hx,hg,hh,cM⟩:=gr h1;have ht:n<top:=TJ hx fi.nx;let⟨o',hb,hO,hB⟩:=r.block ht hg hn;cases o with
  |cells m t z=>
   let⟨q1,q2⟩:=dv h2;let⟨q3,q4⟩:=and_true.1 q1;let⟨q5,q6⟩:=and_true.1 q4;let⟨_,_,_,e1,e2⟩:=jP q2;obtain⟨c,e,rfl,hc,hm,row⟩:=hO;have hlen:(x::l).length=vs.length:=hl.length;have h3:off<=m:=aI.1 q3;have h4:max m (off+(x::l).length)<=top:=aI.1 q5;have h5:∀y∈x::l,y.bM=true:=fun y hy=>TG.1 q6 y hy;have dq:=Od (P:=P) (off:=off) (vs:=vs) hb ak<|I3 hl h5;let⟨g1,g2⟩:=NF (cs:=(c.toList.take off++vs++c.toList.drop (off+vs.length)).toArray) hb;refine⟨by rw[e2,cM],_,dq,?_,g1.below<|hB rfl⟩;rw[e1,hh];refine r.put ht hg rfl rfl hn rfl g1 g2 ?_;refine⟨_,e,rfl,(size_set ak).trans hc,?_,?_⟩
   ·show max m (off+(x::l).length)<=N;omega
   ·have h6:max m (off+(x::l).length)<=c.size:=by omega
    exact Row.set (ρ:=ρ) (c:=c) (n:=m) row hl h5 h3 rfl h6 h4
  |_=>cases h2
theorem Of{sv:Value}{len:Nat}{dM new:List AV}{vo vn:Array Value}(hs:sv= .slice base len c)(hu:P.underlying sT=some (.slice elem))(zf:args[0]? =some sT)(vu:args[1]? =xt)(hx:pZ P xt=true)(hi:P.info? elem=some i)(hz:tX i=true)(hn:(Builtin.lenOf xv).run P w= .ok n w)(ct:c<len+n)(r:Rel B ρ s.h w)(hf:dU s.nx s1.nx ρ)(eY:dM.length=len*i.size)(zg:new.length=n*i.size)(ho:(Builtin.firstCells i.size len sv).run P {w with drawn:=w.drawn+1}= .ok vo {w with drawn:=w.drawn+1})(hw:(Builtin.firstCells i.size n xv).run P {w with drawn:=w.drawn+1}= .ok vn {w with drawn:=w.drawn+1})(ZG:ax ρ dM vo.toList)(FH:ax ρ new vn.toList)(h:grown i.size i.bytes (len+n) dM new s= .ok x s1):kx P B ρ s s1 w x<|Builtin.append_ args 0 #[sv,xv]:=by
 unfold grown at h;let⟨h1,h2⟩:=dv h;let⟨m,s2,h3,h4⟩:=M.aQ h2;obtain⟨rfl,rfl⟩:=bG h4;let⟨h5,h6⟩:=and_true.1 h1;have uH:=aI.1 h5;have hb:i.bytes≠0:=by intro e;rw[e] at h6;simp at h6
 let⟨zv,hz1,hz2⟩:=abe (P:=P) hi hz;let⟨rest,nc,g1,g2,g3⟩:=adZ (P:=P) (w:=w) hs hu zf vu hx hi hn ct uH hb ho hw hz1;have r1:Rel B ρ s.h {w with drawn:=w.drawn+1}:=r.Fi<|iq.drew w;obtain⟨rfl,k1,σ,k2,k3,k4,k5⟩:=NP (P:=P) elem rest r1 hf h3<|ZG.append FH;have e:vo.toList++vn.toList++rest=(vo++vn).toList++rest:=by simp
 refine⟨σ,_,_,k2,g3,?_,?_,(iq.trans (iq.drew w)<|iq.alloc _ _).below r.size⟩
 ·simp only[VR];refine⟨_,_,nc,k3,rfl,g1,g1,?_⟩;have e1:=ZG.length;have e2:=FH.length;simp only[TM];rw[←e1, ←e2,eY,zg,g2,hz2,T6, ←Uo, ←Uo];exact Nat.le_of_eq (by congr 1;omega)
 ·rw[e] at k5;exact k5
theorem aaZ{len:Nat}{base:Option<|Nat×Nat}{cap:cx}{v:Value}(fi:bH s)(r:Rel B ρ s.h w)(ha:VR ρ (.slice base len cap) v)(hc:cap≠ .lost)(h:firstCells size len (.slice base len cap) s= .ok l s1):l.length=len*size:=by
 cases base with
 |none=>obtain⟨rfl,rfl,rfl⟩:=mf ha;obtain⟨rfl,rfl⟩:=bG (show(M.pure []:M<|List AV) s= .ok l s1 from h);simp
 |some p=>let⟨m,i⟩:=p;rw[Nt hc] at h;obtain⟨b,N,q,k,hn,rfl⟩:=vX ha;exact(zL (P:=(default:Program)) fi r h hn).2.2.1
end
end
section
variable {α:Type} {vb va:Value} {v:α} {ts:Array TypeId} {size n:Nat} {s2:AS} {a:AV}
theorem Tt.cG{m:M α}(hm:Tt m){s s1:AS}(fi:bH s)(h:m s= .ok v s1):bH s1:=by let⟨dr,dw,d,_⟩:=hm s v s1 fi h;exact d.cG fi
theorem Tt.le{m:M α}(hm:Tt m){s s1:AS}(fi:bH s)(h:m s= .ok v s1):s.nx<=s1.nx:=by let⟨dr,dw,d,_⟩:=hm s v s1 fi h;exact d.nx
section
variable {P:Program} {B:aE} {ρ:Ren} {w:World} {s s1:AS} {x:AV} {Tu:aJ} {t:Tr AV} {ev:Operand->Value} {o:Oper}
theorem kx.nx{c:Sem Value}(h:kx P B ρ s2 s1 w x c)(e:s2.nx=s.nx):kx P B ρ s s1 w x c:=by unfold kx at h ⊢;rw[e] at h;exact h
theorem aaz{elem sT:TypeId}{len c m b N:Nat}{xv:Value}{xt:Option TypeId}{args:Array TypeId}{dM new:List AV}{vn:Array Value}{p:ah}{bytes:Nat}{vo:List Value}(hu:P.underlying sT=some (.slice elem))(zf:args[0]? =some sT)(vu:args[1]? =xt)(hx:pZ P xt=true)(hi:eZ P elem=some size)(hn:(Builtin.lenOf xv).run P w= .ok n w)(hle:len+n<=c)(r:Rel B ρ s.h w)(ht:m<top)(hg:s.h.get m=some p)(hp:p.zT=true)(hm:ρ m=some (b,N))(hc:c*size<=N)(hf:dU s.nx s1.nx ρ)(eY:dM.length=len*size)(zg:new.length=n*size)(kP:s2.h=s.h.put m none)(R2:s2.nx=s.nx)(hw:(Builtin.firstCells size n xv).run P w= .ok vn w)(hold:∀j v,vo[j]? =some v->w.cell? ⟨b,0+j,none⟩=some v)(ho:ax ρ dM vo)(FH:ax ρ new vn.toList)(h:grown size bytes (len+n) dM new s2= .ok x s1):kx P B ρ s s1 w x<|Builtin.append_ args 0 #[.slice (some ⟨b,0,none⟩) len c,xv]:=by
 let⟨o',hb,hO,hB⟩:=r.block ht hg hm;cases p with
 |cells k tr z=>
  obtain⟨c0,e0,rfl,jF,hk,row⟩:=hO;unfold grown at h;let⟨_,h2⟩:=dv h;let⟨q,s3,h3,h4⟩:=M.aQ h2;obtain⟨rfl,rfl⟩:=bG h4;unfold newRow at h3;let⟨q1,q2⟩:=dv h3;let⟨q3,q4⟩:=and_true.1 q1;obtain⟨FI,rfl,rfl⟩:=v8 q2;have wY:∀y∈dM++new,y.bM=true:=fun y hy=>TG.1 q4 y hy;have hlen:(dM++new).length<=top:=aI.1 q3;have hvl:=FH.length;have ZH:=ho.length;have hmul:len*size+n*size<=c*size:=by rw[←Uo];exact UW _ hle
  have LW:len*size+vn.toList.length<=c0.size:=by omega
  have dq:=Od (P:=P) (off:=len*size) (vs:=vn.toList) hb LW<|I3 FH fun y hy=>wY y<|TU _ hy;let⟨g1,g2⟩:=NF (cs:=(c0.toList.take (len*size)++vn.toList++c0.toList.drop (len*size+vn.toList.length)).toArray) hb;have ri:=J9 (P:=P) (w:=w) (base:=some ⟨b,0,none⟩) hu zf vu hx hi hn hle hw (by show(storeCells ((Addr.mk b 0 none).add<|len*size) vn.toList).run P w=_;rw[Addr.rW,T6];exact dq);let⟨d1,d2⟩:=r.XD ht hg rfl rfl hm g1;have ji:ρ s2.nx=none:=hf s2.nx ak (UT _) ak;refine⟨eW ρ s2.nx (b,N),_,_,?_,ri,?_,?_,g1.below<|hB rfl⟩
  ·rw[←R2];exact Ext.cX ji
  ·simp only[VR];exact⟨b,N,c,jg _ _ _,rfl,hle,hle,by omega⟩
  ·show Rel B _ (s2.h.put s2.nx<|some<|.cells (dM++new).length (Tr.fill (dM++new) 0 .nil) []) _;rw[kP];refine d1.name FI ji rfl g2 (fun _=>hB rfl) (fun k' sh=>by
    cases e:ρ (Rn.hn k' b sh) with
    |none=>rfl
    |some x=>let⟨_,_,_,_,_,_,_,q3,_⟩:=r.fz k' b sh (by rw[e];exact fun h=>by cases h);exact absurd hm<|q3 m _ N ht hg rfl) d2 ?_ (r.tk.of (oh ji) (fun j q hj hq yP=>by
    rw[Tr.dy _ _ _ _ FI hj] at hq;by_cases e:j=s2.nx
    ·rw[if_pos e] at hq;cases hq;cases yP
    ·rw[if_neg e,Tr.dy _ _ _ _ ht hj] at hq;by_cases e2:j=m
     ·rw[if_pos e2] at hq;cases hq
     ·rw[if_neg e2] at hq;exact hq) (by rw[g1.size];exact Tz _) (fun b1 _ hn=>g1.block b1 fun e=>hn m _ N ht hg rfl (by rw[e];exact hm)) (fun b1 _ hn j q M hj hq iy e2=>by
    rw[Tr.dy _ _ _ _ FI hj] at hq;by_cases e:j=s2.nx
    ·subst e;rw[jg] at e2;cases e2;exact hn m _ N ht hg rfl hm
    ·rw[if_neg e,Tr.dy _ _ _ _ ht hj] at hq;rw[gO ρ _ e] at e2;by_cases e3:j=m
     ·rw[if_pos e3] at hq;cases hq
     ·rw[if_neg e3] at hq;exact hn j q M hj hq iy e2) (fun j x sh _ _ e=>by rw[gO ρ _ (by have:=gb j x sh;omega)];exact e))
   refine⟨_,e0,rfl,?_,?_,fun i hi=>?_⟩
   ·exact(size_set LW).trans jF
   ·simp only[TM];omega
   ·simp only[TM] at hi;obtain⟨a,ha⟩:∃a,(dM++new)[i]? =some a:=⟨(dM++new)[i]'(by simp;exact hi),TE _⟩;have nj:=zM (l:=dM++new) (i:=i) hlen (by simp;exact hi);let⟨v,hv,hr⟩:=(ho.append FH).get i a ha;refine⟨a,v,by rw[nj];exact ha,wY a<|TY ha,?_,hr.mono<|oh ji⟩;simp only[Vi];by_cases q:i<len*size
    ·rw[Ux ak] at hv;have:=hold i v hv;simp only[World.cell?,hb,T6] at this;rw[Um,Ux xk,U4 q];simpa using this
    ·rw[UJ ak] at hv;have hvi:i - vo.length<vn.toList.length:=(TZ.1 hv).1;rw[Um,UJ xk];simp only[T4,Uq];rw[Vj ak,Ux ak];rw[show i - len*size=i - vo.length from by omega];exact hv
 |_=>cases hp
theorem abo{b:AV}(ha:VR ρ a va)(hb:VR ρ b vb)(fi:bH s)(r:Rel B ρ s.h w)(hf:dU s.nx s1.nx ρ)(h:pX P ts a b s= .ok x s1):
 kx P B ρ s s1 w x (Builtin.append_ ts 0 #[va,vb]):=by
 unfold pX at h;let⟨sT,h1,h⟩:=bz h;cases e1:P.underlying sT with
 |none=>simp only[e1] at h;cases h
 |some d=>
  cases d<;>simp only[e1] at h<;>first|(cases h;done)|skip
  rename_i elem;cases a<;>simp only at h<;>first|(cases h;done)|skip
  rename_i base len cap _;let⟨i,h2,h⟩:=bz h;let⟨h3,h⟩:=dv h;let⟨hz,hx⟩:=and_true.1 h3;let⟨n,h4,h⟩:=bz h;let⟨new,s2,h5,h⟩:=M.aQ h;let⟨h6,h⟩:=dv h;have zg:=eP.1 h6;have hi:eZ P elem=some i.size:=by simp[eZ,h2]
  let⟨k1,k2,vn,k3,k4⟩:=I0 (P:=P) hb fi r h5;have rd:Rel B ρ s.h {w with drawn:=w.drawn+1}:=r.Fi<|iq.drew w;let⟨_,_,vn',MG,MH⟩:=I0 (P:=P) hb fi rd h5;have hn:=alR (P:=P) (w:=w) hb h4;have dO:bH s2:=(Tt.firstCells _ _ _).cG fi h5;have r2:Rel B ρ s2.h w:=by rw[k1];exact r
  have C9:Rel B ρ s2.h {w with drawn:=w.drawn+1}:=by rw[k1];exact rd
  unfold rT at h;cases cap with
  |lost=>cases h
  |known c=>
   simp only at h;cases q:Tw (len+n) c with
   |true=>
    simp only[q] at h;have hle:=aI.1 q;let⟨u,s3,h7,h8⟩:=M.aQ h;obtain⟨rfl,rfl⟩:=bG h8;cases base with
    |none=>
     obtain⟨rfl,rfl⟩:=bG h7;obtain⟨rfl,hc,rfl⟩:=mf ha;cases hc;have pH:n=0:=by omega
     subst pH;refine⟨ρ,w,_,by rw[k2];exact Ext.refl _ _ _,J9 (P:=P) (w:=w) (base:=none) e1 h1 rfl hx hi hn hle k3 rfl,?_,r2,cI.refl _ _⟩;simp[VR]
    |some p=>let⟨m,j⟩:=p;have rD:=ha;simp only[VR] at rD;obtain⟨bb,N,hm,rfl⟩:=rD;let⟨g1,w',g2,g3,g4⟩:=Nu (P:=P) dO r2 h7 hm k4;refine⟨ρ,w',_,by rw[g1,k2];exact Ext.refl _ _ _,J9 (P:=P) (w:=w) (base:=some ⟨bb,j,none⟩) e1 h1 rfl hx hi hn hle k3 (by show(storeCells ((Addr.mk bb j none).add<|len*i.size) vn.toList).run P w=_;rw[Addr.rW];exact g2),?_,g3,g4⟩;simp only[VR];exact⟨bb,N,hm,rfl⟩
   |false=>
    simp only[q] at h;have ct:c<len+n:=by
     rcases UX c (len+n) with e|e
     ·exact e
     ·rw[aI.2 e] at q;cases q
    let⟨dM,s3,h7,h8⟩:=M.aQ h;let⟨j1,j2,vo,j3,j4⟩:=I0 (P:=P) ha dO C9 h7;have ZH:=aaZ dO r2 ha (by intro e;cases e) h7;have:∃Yj:Option Addr,va= .slice Yj len c:=by
     cases base with
     |none=>obtain⟨rfl,hc,rfl⟩:=mf ha;cases hc;exact⟨_,rfl⟩
     |some p=>let⟨m,j⟩:=p;simp only[VR] at ha;obtain⟨_,_,_,rfl⟩:=ha;exact⟨_,rfl⟩
    let⟨Yj,hva⟩:=this;refine kx.nx (s2:=s3) (Of (P:=P) hva e1 h1 rfl hx h2 hz hn ct (by rw[j1];exact r2) (by rw[j2,k2];exact hf) ZH zg j3 MG j4 MH h8) (by rw[j2,k2])
  |au lo sz=>
   let⟨h7,h⟩:=dv h;have:=eP.1 h7;subst this;cases q:Tw (len+n) lo with
   |true=>
    simp only[q] at h;have hle:=aI.1 q;cases base with
    |none=>cases h
    |some p=>
     let⟨m,j⟩:=p;simp only at h;let⟨u,s3,h8,h9⟩:=M.aQ h;obtain⟨rfl,rfl⟩:=bG h9;have rD:=ha;simp only[VR] at rD;obtain⟨bb,N,c,hm,rfl,eY,MI,hN⟩:=rD;have LW:j+len*i.size+new.length<=N:=by have:(len+n)*i.size<=c*i.size:=UW _ ak;rw[Uo] at this;omega
     let⟨g1,w',g2,g3,g4⟩:=abf (P:=P) dO r2 LW h8 hm k4;refine⟨ρ,w',_,by rw[g1,k2];exact Ext.refl _ _ _,J9 (P:=P) (w:=w) (base:=some ⟨bb,j,none⟩) e1 h1 rfl hx hi hn ak k3 (by show(storeCells ((Addr.mk bb j none).add<|len*i.size) vn.toList).run P w=_;rw[Addr.rW];exact g2),?_,g3,g4⟩;simp only[VR];exact⟨bb,N,c,hm,rfl,eY,by omega,hN⟩
   |false=>
    simp only[q] at h;cases base with
    |none=>cases h
    |some p=>
     let⟨m,j⟩:=p;cases j with
     |succ j=>cases h
     |zero=>
      simp only at h;let⟨dM,s3,h8,h⟩:=M.aQ h;let⟨ob,s4,h9,h⟩:=M.aQ h;let⟨gT,h⟩:=dv h;let⟨u,s5,zh,rE⟩:=M.aQ h;have rD:=ha;simp only[VR] at rD;obtain⟨bb,N,c,hm,rfl,eY,MI,hN⟩:=rD;let⟨j1,j2,j3,j4,vo,j5,j6,j7⟩:=zL (P:=P) dO r2 h8 hm;let⟨_,_,_,_,vo',R3,R4,_⟩:=zL (P:=P) dO C9 h8 hm;let⟨i1,i2,i3,i4⟩:=gr h9;let⟨i5,i6,i7,i8,i9⟩:=jP zh;have hh:s4.h=s2.h:=i3.trans j1;have cM:s4.nx=s.nx:=(i4.trans j2).trans k2;by_cases hq:len+n<=c
      ·refine kx.nx (s2:=s2) ?_ k2;refine aaz (P:=P) (s:=s2) (s2:=s5) (p:=ob) (vo:=vo) e1 h1 rfl hx hi hn hq r2 i6 (by rw[←j1];exact i2) gT hm ak (by rw[k2];exact hf) j3 zg (by rw[i8,hh]) (by rw[i9,cM,k2]) k3 j7 j6 k4 rE
      ·have R5:s4.h.get m≠some .iT:=by intro e;rw[i3,i2] at e;injection e with e;subst e;cases gT
       refine kx.nx (s2:=s5) (Of (P:=P) rfl e1 h1 rfl hx h2 hz hn ak (by rw[i8];exact Rel.drop (by rw[hh];exact r2) i6 R5) (by rw[i9,cM];exact hf) j3 zg (by simpa[Builtin.firstCells] using R3) MG (by simpa using R4) MH rE) (by rw[i9,cM])
theorem aak{o k:Nat}{v:Value}{l:List AV}{Tu:aJ}(fx:Ca B Tu)(ht:top<=n)(hb:VR ρ (.ab n o k) v)(fi:bH s)(r:Rel B ρ s.h w)(h:tZ Tu n o (k*size) s= .ok l s1):
 s1.h=s.h/\s1.nx=s.nx/\l.length=k*size/\(Builtin.lenOf v).run P w= .ok k w/\∃arr:Array Value,(Builtin.firstCells size k v).run P w= .ok arr w/\ax ρ l arr.toList:=by
 rcases Vl (k*size) with hk|hk
 ·rw[show tZ Tu n o (k*size)=M.pure [] from by rw[hk];rfl] at h;obtain⟨rfl,rfl⟩:=bG h;refine⟨rfl,rfl,hk.symm,?_⟩;simp only[VR] at hb;rcases hb with⟨_,rfl,a0,c,rfl,_⟩|⟨b,sh,c,e,rfl,_⟩
  ·refine⟨rfl, #[],?_,by simp[ax]⟩;cases a0<;>simp[Builtin.firstCells,loadCells,loadCellsFrom]
  ·refine⟨rfl, #[],?_,by simp[ax]⟩;simp[Builtin.firstCells,loadCells,loadCellsFrom,hk]
 rw[show tZ Tu n o (k*size)=(Tu (.row n o<|k*size) []).bind fun x=>match x with
  | .agg l=>aG (Tx l.length<|k*size) <| M.pure l
  |_=>fail from by obtain⟨m,hm⟩:∃m,k*size=m+1:=⟨k*size - 1,by omega⟩;rw[hm];rfl] at h
 let⟨x,s2,h1,h2⟩:=M.aQ h;split at h2<;>first|(cases h2;done)|skip
 rename_i l';let⟨h3,h4⟩:=dv h2;obtain⟨rfl,rfl⟩:=bG h4;let⟨a1,a2,a3⟩:=fx _ _ _ _ _ _ _ _ fi r h1;have hlen:=eP.1 h3;refine⟨a1,a2,hlen,?_⟩;simp only[VR] at hb;rcases hb with⟨_,rfl,a0,c,rfl,hz⟩|⟨b,sh,c,e,rfl,_⟩
 ·have:l=[]:=UY (by rw[hlen,UE]);subst this;refine⟨rfl, #[],?_,by simp[ax]⟩;cases a0<;>simp[Builtin.firstCells,loadCells,loadCellsFrom]
 ·let⟨l2,vs,e2,e3,e4,c',et,fr,e5,e6⟩:=a3 b sh<|e.high ht;injection e2 with e2
  subst e2;have Hl:=JJ (P:=P) (w:=w) e5 e6;rw[e3] at Hl;exact⟨rfl,vs.toArray,by simpa[Builtin.firstCells] using Hl,by simpa using e4⟩
theorem abC{n0 o0 k0:Nat}{Tu:aJ}(fx:Ca B Tu)(hl:∀t a,Tt<|Tu t a)(ha:VR ρ a va)(hb:VR ρ (.ab n0 o0 k0) vb)(fi:bH s)(r:Rel B ρ s.h w)(hf:dU s.nx s1.nx ρ)(h:BU P Tu ts a n0 o0 k0 s= .ok x s1):
 kx P B ρ s s1 w x (Builtin.append_ ts 0 #[va,vb]):=by
 unfold BU at h;let⟨dI,h⟩:=dv h;have dI:=aI.1 dI;let⟨sT,h1,h⟩:=bz h;cases e1:P.underlying sT with
 |none=>simp only[e1] at h;cases h
 |some d=>
  cases d<;>simp only[e1] at h<;>first|(cases h;done)|skip
  rename_i elem;obtain⟨m,len,cap,rfl⟩:∃m len cap,a= .slice (some (m,0)) len cap:=by
   cases a with
   |slice base len cap=>
    cases base with
    |none=>cases h
    |some p=>
     let⟨m,j⟩:=p;cases j with
     |succ j=>cases h
     |zero=>exact⟨m,len,cap,rfl⟩
   |_=>cases h
  let⟨i,h2,h⟩:=bz h;let⟨h3,h⟩:=dv h;let⟨hz,hx⟩:=and_true.1 h3;let⟨fH,h⟩:=dv h;let⟨new,s2,h5,h⟩:=M.aQ h;have hi:eZ P elem=some i.size:=by simp[eZ,h2]
  let⟨k1,k2,zg,hn,vn,k3,k4⟩:=aak (P:=P) fx dI hb fi r h5;have rd:Rel B ρ s.h {w with drawn:=w.drawn+1}:=r.Fi<|iq.drew w;let⟨_,_,_,_,vn',MG,MH⟩:=aak (P:=P) fx dI hb fi rd h5;have dO:bH s2:=(Tt.tZ hl _ _ _).cG fi h5;have r2:Rel B ρ s2.h w:=by rw[k1];exact r
  have C9:Rel B ρ s2.h {w with drawn:=w.drawn+1}:=by rw[k1];exact rd
  have rD:∃bb N c,ρ m=some (bb,N)/\va= .slice (some ⟨bb,0,none⟩) len c/\len<=c/\0+c*i.size<=N:=by
   cases cap with
   |lost=>cases fH
   |known c=>let⟨q1,q2⟩:=and_true.1 fH;have q1:=eP.1 q1;have q2:=eP.1 q2;subst q1;subst q2;simp only[VR] at ha;let⟨bb,N,e,hv⟩:=ha;exact⟨bb,N,0,e,hv,Tz _,by omega⟩
   |au lo sz=>have:=eP.1 fH;subst this;simp only[VR] at ha;let⟨bb,N,c,hm,hv,_,MI,hN⟩:=ha;exact⟨bb,N,c,hm,hv,MI,hN⟩
  obtain⟨bb,N,c,hm,rfl,MI,hN⟩:=rD;let⟨dM,s3,h8,h⟩:=M.aQ h;let⟨ob,s4,h9,h⟩:=M.aQ h;let⟨gT,h⟩:=dv h;let⟨u,s5,zh,rE⟩:=M.aQ h;let⟨j1,j2,j3,j4,vo,j5,j6,j7⟩:=zL (P:=P) dO r2 h8 hm;let⟨_,_,_,_,vo',R3,R4,_⟩:=zL (P:=P) dO C9 h8 hm;let⟨i1,i2,i3,i4⟩:=gr h9;let⟨i5,i6,i7,i8,i9⟩:=jP zh;have hh:s4.h=s2.h:=i3.trans j1;have cM:s4.nx=s.nx:=(i4.trans j2).trans k2;by_cases hq:len+k0<=c
  ·refine kx.nx (s2:=s2) ?_ k2;refine aaz (P:=P) (s:=s2) (s2:=s5) (p:=ob) (vo:=vo) e1 h1 rfl hx hi hn hq r2 i6 (by rw[←j1];exact i2) gT hm ak (by rw[k2];exact hf) j3 zg (by rw[i8,hh]) (by rw[i9,cM,k2]) k3 j7 j6 k4 rE
  ·have R5:s4.h.get m≠some .iT:=by intro e;rw[i3,i2] at e;injection e with e;subst e;cases gT
   refine kx.nx (s2:=s5) (Of (P:=P) rfl e1 h1 rfl hx h2 hz hn ak (by rw[i8];exact Rel.drop (by rw[hh];exact r2) i6 R5) (by rw[i9,cM];exact hf) j3 zg (by simpa[Builtin.firstCells] using R3) MG (by simpa using R4) MH rE) (by rw[i9,cM])
end
end
section
variable {ts:Array TypeId} {vs:Array Value} {va:Value} {ty:TypeId} {consts:Array Bool} {b:Builtin} {a:AV}
section
variable {P:Program} {B:aE} {ρ:Ren} {w:World} {s s1:AS} {x:AV} {Tu:aJ} {t:Tr AV} {ev:Operand->Value} {o:Oper}
theorem ab4{b:AV}{vb:Value}(ha:VR ρ a va)(hb:VR ρ b vb)(fi:bH s)(r:Rel B ρ s.h w)(h:z7 P ts a b s= .ok x s1):
 kx P B ρ s s1 w x (Builtin.copy_ ts 0 #[va,vb]):=by
 unfold z7 at h;let⟨sT,h1,h⟩:=bz h;cases e1:P.underlying sT with
 |none=>simp only[e1] at h;cases h
 |some d=>
  cases d<;>simp only[e1] at h<;>first|(cases h;done)|skip
  rename_i elem;cases a<;>simp only at h<;>first|(cases h;done)|skip
  rename_i base len cap _;let⟨k,h2,h⟩:=bz h;let⟨n,h3,h⟩:=bz h;let⟨h4,h⟩:=dv h;let⟨cells,s2,h5,h⟩:=M.aQ h;let⟨u,s3,h6,h7⟩:=M.aQ h;obtain⟨rfl,rfl⟩:=bG h7;have hn:=alR (P:=P) (w:=w) hb h3;let⟨k1,k2,vn,k3,k4⟩:=I0 (P:=P) hb fi r h5;have dO:bH s2:=(Tt.firstCells _ _ _).cG fi h5;have r2:Rel B ρ s2.h w:=by rw[k1];exact r
  cases base with
  |none=>obtain⟨_,rfl⟩:=bG h6;obtain⟨rfl,hc,rfl⟩:=mf ha;refine⟨ρ,w,.int .i64 (Nat.min n 0:Nat),by rw[k2];exact Ext.refl _ _ _,?_,by simp only[VR],r2,cI.refl _ _⟩;simp only[Builtin.copy_,h1,show(#[Value.slice none 0 0,vb]:Array Value)[0]? =some (.slice none 0 0) from rfl,show(#[Value.slice none 0 0,vb]:Array Value)[1]? =some vb from rfl,TF,dJ e1,TH,hn,jf h2,k3,TK,goInt]
  |some p=>
   let⟨m,i⟩:=p;have hq:∃bb N c,ρ m=some (bb,N)/\va= .slice (some ⟨bb,i,none⟩) len c:=by
    cases cap with
    |known c=>simp only[VR] at ha;obtain⟨bb,N,e,rfl⟩:=ha;exact⟨bb,N,c,e,rfl⟩
    |au lo e0=>simp only[VR] at ha;obtain⟨bb,N,c,e,rfl,_⟩:=ha;exact⟨bb,N,c,e,rfl⟩
    |lost=>cases h4
   obtain⟨bb,N,c,hm,rfl⟩:=hq;let⟨g1,w',g2,g3,g4⟩:=Nu (P:=P) dO r2 h6 hm k4;refine⟨ρ,w',.int .i64 (Nat.min n len:Nat),by rw[g1,k2];exact Ext.refl _ _ _,?_,by simp only[VR],g3,g4⟩;simp only[Builtin.copy_,h1,show(#[Value.slice (some ⟨bb,i,none⟩) len c,vb]:Array Value)[0]? =some (.slice (some ⟨bb,i,none⟩) len c) from rfl,show(#[Value.slice (some ⟨bb,i,none⟩) len c,vb]:Array Value)[1]? =some vb from rfl,TF,dJ e1,TH,hn,jf h2,k3,TK,goInt,g2]
theorem eA.length:∀{x:List<|AV×AV} {l:List MapEntry},eA ρ x l->x.length=l.length
 |[],l,k=>by have k':l=[]:=k;subst k';rfl
 |_::_,_,k=>by obtain⟨e,es,rfl,_,_,d⟩:=k;simp[eA.length d]
theorem ad0(ha:VR ρ a va)(fi:bH s)(r:Rel B ρ s.h w)(h:AD P ts a s= .ok x s1):
    kx P B ρ s s1 w x (Builtin.len_ ts 0 #[va]):=by
  unfold AD at h
  have h9:=M.aQ h
  clear h
  let⟨sT,s0,h0,h⟩:=h9
  let⟨h1,MJ⟩:=ij h0
  clear h0
  subst MJ
  have ZI:(#[va]:Array Value)[0]? =some va:=rfl
  cases e1:P.underlying sT with
  |none=>simp only[e1] at h;cases h
  | some d=>
    have fin:∀n:Nat,(Builtin.len_ ts 0 #[va]).run P w= .ok (goInt n) w->x= .int .i64 n->s1.h=s0.h->s1.nx=s0.nx->kx P B ρ s0 s1 w x (Builtin.len_ ts 0 #[va]):=by
      intro n hr hx hh cM
      subst hx
      exact⟨ρ,w,_,by rw[cM];exact Ext.refl _ _ _,hr,by simp only[VR,goInt],by rw[hh];exact r,cI.refl _ _⟩
    cases d<;>simp only[e1] at h<;>first|(cases h;done)|skip
    case slice e=>
      cases a<;>first|(cases h;done)|skip
      case slice base len cap=>
        obtain⟨rfl,rfl⟩:=bG h
        have:∃p c,va= .slice p len c:=by
          cases base with
          |none=>obtain⟨rfl,_,rfl⟩:=mf ha;exact⟨_,_,rfl⟩
          |some p=>let⟨m,j⟩:=p;obtain⟨_,_,_,_,_,rfl⟩:=vX ha;exact⟨_,_,rfl⟩
        obtain⟨p,c,rfl⟩:=this
        refine fin _ ?_ rfl rfl rfl
        simp only[Builtin.len_,h1,ZI,TF,dJ e1,TH,TK]
      case ab n o len=>
        obtain⟨rfl,rfl⟩:=bG h
        simp only[VR] at ha
        rcases ha with⟨_,rfl,_,_,rfl,_⟩|⟨b,sh,c,_,rfl,_⟩<;>
        (refine fin _ ?_ rfl rfl rfl
         simp only[Builtin.len_,h1,ZI,TF,dJ e1,TH,TK])
theorem OO{f:AV->AV->Option AV}{g:Value->Value->Sem Value}(hf:∀a b c va vb,f a b=some c->VR ρ a va->VR ρ b vb->∃vc,(g va vb).run P w= .ok vc w/\VR ρ c vc):
 ∀{l:List AV} {vs:List Value} {a c:AV} {va:Value},Et f l a=some c->ax ρ l vs->VR ρ a va->∃vc,(vs.foldlM g va).run P w= .ok vc w/\VR ρ c vc
 |[],vs,a,c,va,h,hl,ha=>by
  simp only[ax] at hl;subst hl;simp only[Et] at h;injection h with h;subst h
  exact⟨va,rfl,ha⟩
 |y::l,vs,a,c,va,h,hl,ha=>by
  simp only[ax] at hl;obtain⟨v,ys,rfl,hv,hl⟩:=hl;simp only[Et] at h;cases e:f a y with
  |none=>rw[e] at h;cases h
  |some z=>simp only[e] at h;let⟨vz,g1,g2⟩:=hf a y z va v e ha hv;let⟨vc,g3,g4⟩:=OO hf h hl g2;exact⟨vc,by simp only[List.foldlM_cons,TF,g1,TH,g3],g4⟩
theorem ad1(a b c:AV)(va vb:Value)(h:min2 a b=some c)(ha:VR ρ a va)(hb:VR ρ b vb):∃vc,(Builtin.min2 va vb).run P w= .ok vc w/\VR ρ c vc:=by
 unfold min2 at h;split at h
 ·rename_i k x k2 y;injection h with h;subst h
  simp only[VR] at ha hb;subst ha;subst hb;refine⟨_,rfl,?_⟩;simp only[VR];by_cases q:y<x<;>simp[q]
 ·cases h
theorem ad2(a b c:AV)(va vb:Value)(h:max2 a b=some c)(ha:VR ρ a va)(hb:VR ρ b vb):∃vc,(Builtin.max2 va vb).run P w= .ok vc w/\VR ρ c vc:=by
 unfold max2 at h;split at h
 ·rename_i k x k2 y;injection h with h;subst h
  simp only[VR] at ha hb;subst ha;subst hb;refine⟨_,rfl,?_⟩;simp only[VR];by_cases q:y>x<;>simp[q]
 ·cases h
theorem abp{l:List AV}(hl:ax ρ l vs.toList)(fi:bH s)(r:Rel B ρ s.h w)(hf:dU s.nx s1.nx ρ)(h:zR P b ts l s= .ok x s1):gD P B ρ s s1 w x<|Go.builtin b ts ty consts vs:=by
 let⟨vs⟩:=vs;unfold zR at h;split at h
 ·rename_i y;simp only[ax] at hl;obtain⟨v,ys,rfl,hv,rfl⟩:=hl;exact(ad0 hv fi r h).op
 ·rename_i y z;simp only[ax] at hl;obtain⟨v,ys,rfl,hv,v2,FJ,rfl,th,rfl⟩:=hl;exact(abo hv th fi r hf h).op
 ·rename_i y z;simp only[ax] at hl;obtain⟨v,ys,rfl,hv,v2,FJ,rfl,th,rfl⟩:=hl;exact(ab4 hv th fi r h).op
 ·rename_i y z;simp only[ax] at hl;obtain⟨v,ys,rfl,hv,hl⟩:=hl;obtain⟨h1,rfl⟩:=ij h;let⟨vc,g1,g2⟩:=OO (P:=P) (w:=w) ad1 h1 hl hv;exact kx.op (c:=Builtin.min_ ts ty ⟨v::ys⟩) ⟨ρ,w,vc,Ext.refl _ _ _,g1,g2,r,cI.refl _ _⟩
 ·rename_i y z;simp only[ax] at hl;obtain⟨v,ys,rfl,hv,hl⟩:=hl;obtain⟨h1,rfl⟩:=ij h;let⟨vc,g1,g2⟩:=OO (P:=P) (w:=w) ad2 h1 hl hv;exact kx.op (c:=Builtin.max_ ts ty ⟨v::ys⟩) ⟨ρ,w,vc,Ext.refl _ _ _,g1,g2,r,cI.refl _ _⟩
 ·cases h
theorem ab5{y:AV}{n q k:Nat}(fx:Ca B Tu)(pI:∀t a,Tt<|Tu t a)(hl:ax ρ [y,.ab n q k] vs.toList)(fi:bH s)(r:Rel B ρ s.h w)(hf:dU s.nx s1.nx ρ)(h:BU P Tu ts y n q k s= .ok x s1):gD P B ρ s s1 w x<|Go.builtin .append ts ty consts vs:=by let⟨vs⟩:=vs;simp only[ax] at hl;obtain⟨v,ys,rfl,hv,hl⟩:=hl;obtain⟨v2,FJ,rfl,th,rfl⟩:=hl;exact(abC fx pI hv th fi r hf h).op
theorem abq{args:Array Operand}(fx:Ca B Tu)(pI:∀t a,Tt<|Tu t a)(he:∀x v,aF t x=some v->VR ρ v (ev x))(fi:bH s)(r:Rel B ρ s.h w)(hf:dU s.nx s1.nx ρ)(h:o8 P b ts args.toList Tu t s= .ok x s1)(ho:o.op= .call ⟨.builtin b,args,ts⟩):gD P B ρ s s1 w x<|execOp ev o:=by
 unfold o8 at h;let⟨vs,h1,h2⟩:=bz h;have hl:=GJ he h1;have key:(∃y n q k,b= .append/\vs=[y,.ab n q k]/\BU P Tu ts y n q k s= .ok x s1)\/zR P b ts vs s= .ok x s1:=by
  split at h2
  ·exact .inl ⟨_,_,_,_,rfl,rfl,h2⟩
  ·exact .inr h2
 have all:∀consts:Array Bool,gD P B ρ s s1 w x<|Go.builtin b ts o.type consts<|args.map ev:=fun consts=>by
  rcases key with⟨y,n,q,k,rfl,rfl,h2⟩|h2
  ·exact ab5 fx pI (by simpa using hl) fi r hf h2
  ·exact abp (vs:=args.map ev) (by simpa using hl) fi r hf h2
 have:=all (args.map fun| .const _=>true|_=>false);let⟨σ,w',nv,a1,a2,a3⟩:=this;refine⟨σ,w',nv,a1,?_,a3⟩;simp only[execOp,ho,resolve,TF,TK,TH,invoke];exact a2
end
end
section
variable {key a:AV} {v:Value} {r:Option<|Nat×AV} {kd:TypeDesc} {k:TypeId} {l:List MapEntry} {es:List<|AV×AV}
section
variable {P:Program} {B:aE} {ρ:Ren} {w:World} {s s1:AS} {x:AV} {Tu:aJ} {t:Tr AV} {ev:Operand->Value} {o:Oper}
theorem Nx{em:Bool}{d:Nat}{C2:TypeId->AV->Bool}(hc:∀ty a v,C2 ty a=true->VR ρ a v->(Instr.checkKey em d ty v).run P w= .ok () w){cs:List AV}{ds:Array Value}(hx:ax ρ cs ds.toList):∀{fs:List Field},Gp P C2 cs fs=true->
 (forIn fs PUnit.unit fun f _=>do
  if f.name≠ "_" then do
   Instr.checkKey em d f.type (←part f.type ds f.offset)
   pure (ForInStep.yield PUnit.unit)
  else pure (ForInStep.yield PUnit.unit):Sem PUnit).run P w= .ok PUnit.unit w
 |[],_=>rfl
 |f::fs,h=>by
  simp only[Gp] at h;rw[List.forIn_cons];cases en:(f.name == "_") with
  |true=>
   simp only[en] at h;have:¬(f.name≠ "_"):=by simpa using en
   rw[if_neg this];simp only[TF,TK,TH];exact Nx hc hx h
  |false=>
   simp only[en] at h;have cz:f.name≠ "_" :=by intro e;rw[e] at en;simp at en
   rw[if_pos cz];cases e1:wF P f.type cs f.offset with
   |none=>simp only[e1] at h;cases h
   |some a=>
    simp only[e1] at h;let⟨v,g1,g2⟩:=Gq (w:=w) hx e1;cases e2:C2 f.type a with
    |false=>simp only[e2] at h;cases h
    |true=>simp only[e2] at h;simp only[TF,TK,TH,g1,hc _ _ _ e2 g2];exact Nx hc hx h
theorem Js{em:Bool}:∀{d:Nat} {ty:TypeId} {a:AV} {v:Value},pj P d ty a=true->VR ρ a v->(Instr.checkKey em d ty v).run P w= .ok () w
 |0,_,_,_,h,_=>by simp only[pj] at h;cases h
 |d+1,ty,a,v,h,ha=>by
  simp only[pj] at h;rw[Instr.checkKey];split at h<;>first|(cases h;done)|skip
  ·rename_i e;simp[dJ e]
  ·rename_i e;simp[dJ e]
  ·rename_i e;simp[dJ e]
  ·rename_i fs cs e;simp only[VR] at ha;obtain⟨ds,rfl,hl⟩:=ha;simp only[TF,dJ e,TH];have:=Nx (P:=P) (w:=w) (em:=em) (d:=d) (fun ty a v h1 h2=>Js h1 h2) hl h;rw[←Array.forIn_toList];simp only[this,TH,TK]
theorem Gi{b:AV}{c:Bool}{u:Value}(hk:P.underlying k=some kd)(hp:plainKey P k a=true)(h:sameKey a b=some c)(ha:VR ρ a v)(hb:VR ρ b u):Instr.sameNow kd v u=some c:=by
 unfold plainKey at hp;rw[hk] at hp;unfold sameKey at h;split at h<;>first|(cases h;done)|skip
 ·rename_i k1 x1 k2 x2;simp only[VR] at ha hb;subst ha;subst hb;cases R6:decide (k1=k2) with
  |false=>rw[R6] at h;cases h
  |true=>
   rw[R6] at h;injection h with h;subst h
   have:=of_decide_eq_true R6;cases kd<;>first|(cases hp;done)|simp[Instr.sameNow,this]
 ·injection h with h;subst h
  simp only[VR] at ha hb;subst ha;subst hb;cases kd<;>first|(cases hp;done)|simp[Instr.sameNow]
 ·injection h with h;subst h
  simp only[VR] at ha hb;subst ha;subst hb;cases kd<;>first|(cases hp;done)|simp[Instr.sameNow]
def ER(ρ:Ren)(es:List<|AV×AV)(l:List MapEntry)(i:Nat):Option (Nat×AV)->Option (Nat×Value)->Prop
 |none,r=>r=none
 |some (j,x),r=>∃y q e,r=some (j,y)/\VR ρ x y/\i<=j/\es[j - i]? =some q/\l[j - i]? =some e/\VR ρ q.1 e.key/\q.2=x/\e.val=y
theorem ER.next{i:Nat}{p:AV×AV}{e:MapEntry}{r':Option<|Nat×Value}(h:ER ρ es l (i+1) r r'):ER ρ (p::es) (e::l) i r r':=by
 cases r with
 |none=>exact h
 |some q=>
  let⟨j,x⟩:=q;let⟨y,q,e2,h1,h2,h3,h4,h5,h6⟩:=h;refine⟨y,q,e2,h1,h2,by omega,?_,?_,h6⟩
  ·rw[show j - i=(j - (i+1))+1 from by omega];simpa using h4
  ·rw[show j - i=(j - (i+1))+1 from by omega];simpa using h5
theorem aag{k:TypeId}{kd:TypeDesc}{key:AV}{v:Value}(hk:P.underlying k=some kd)(hp:plainKey P k key=true)(hv:VR ρ key v):∀{es:List<|AV×AV} {l:List MapEntry} {i:Nat} {r:Option<|Nat×AV},
 eA ρ es l->lu key es i=some r->∃r',Instr.findNow kd v l i=some r'/\ER ρ es l i r r'
 |[],l,i,r,he,h=>by
  have Iw:l=[]:=he;subst Iw;simp only[lu] at h;injection h with h;subst h
  exact⟨none,rfl,rfl⟩
 |(a,b)::es,l,i,r,he,h=>by
  obtain⟨e,l',rfl,h1,h2,h3⟩:=he;simp only[lu] at h;cases q:sameKey key a with
  |none=>rw[q] at h;cases h
  |some c=>
   have:=Gi hk hp q hv h1;cases c with
   |true=>
    simp only[q] at h;injection h with h;subst h
    exact⟨some (i,e.val),by simp only[Instr.findNow,this],e.val,(a,b),e,rfl,h2,Tz _,by simp,by simp,h1,rfl,rfl⟩
   |false=>simp only[q] at h;let⟨r',g1,g2⟩:=aag hk hp hv h3 h;exact⟨r',by simp only[Instr.findNow,this];exact g1,g2.next⟩
theorem aal{k:TypeId}{key:AV}{v:Value}(hv:VR ρ key v):∀{es:List<|AV×AV} {l:List MapEntry} {i:Nat} {r:Option<|Nat×AV},
 eA ρ es l->GH P k key es i=some r->∃r',(Instr.findAsking k v l i).run P w= .ok r' w/\ER ρ es l i r r'
 |[],l,i,r,he,h=>by
  have Iw:l=[]:=he;subst Iw;simp only[GH] at h;injection h with h;subst h
  exact⟨none,rfl,rfl⟩
 |(a,b)::es,l,i,r,he,h=>by
  obtain⟨e,l',rfl,h1,h2,h3⟩:=he;simp only[GH] at h;cases q:qy P Op.maxDepth k key a with
  |none=>rw[q] at h;cases h
  |some c=>
   have hq:(Op.equal k v e.key).run P w= .ok c w:=J8 q hv h1;cases c with
   |true=>
    simp only[q] at h;injection h with h;subst h
    exact⟨some (i,e.val),by simp[Instr.findAsking,hq],e.val,(a,b),e,rfl,h2,Tz _,by simp,by simp,h1,rfl,rfl⟩
   |false=>simp only[q] at h;let⟨r',g1,g2⟩:=aal hv h3 h;exact⟨r',by simp[Instr.findAsking,hq,g1],g2.next⟩
theorem agS{k:IntKind}{n:Int}(ha:VR ρ a<|.int k n):a= .int k n:=by
 cases a<;>(try simp only[VR] at ha)<;>first|(cases ha;rfl)|(cases ha;done)|skip
 ·rename_i q;cases q<;>simp only[VR] at ha<;>first|(cases ha;done)|(let⟨_,_,_,e⟩:=ha;cases e)
 ·rename_i q l c;cases q with
  |none=>let⟨_,_,e⟩:=mf ha;cases e
  |some q=>let⟨n,i⟩:=q;let⟨_,_,_,_,_,e⟩:=vX ha;cases e
 ·rcases ha with⟨_,_,_,_,e,_⟩|⟨_,_,_,_,e,_⟩<;>cases e
 ·let⟨_,_,_,e⟩:=ha;cases e
 ·rename_i q;cases q<;>simp only[VR] at ha<;>first|(cases ha;done)|(let⟨_,_,_,e⟩:=ha;cases e)
 ·let⟨_,_,_,e,_⟩:=ha;cases e
 ·let⟨_,_,_,e⟩:=ha;cases e
 ·let⟨_,e,_⟩:=ha;cases e
 ·let⟨_,e,_⟩:=ha;cases e
 ·let⟨_,e,_⟩:=ha;cases e
theorem agT{q:ByteArray}(hz:vj a=true)(ha:VR ρ a<|.string q):a= .str q:=by
 cases a<;>(try cases hz;done)<;>(try simp only[VR] at ha)<;>first|(cases ha;rfl)|(cases ha;done)|skip
 ·rename_i q;cases q<;>simp only[VR] at ha<;>first|(cases ha;done)|(let⟨_,_,_,e⟩:=ha;cases e)
 ·rename_i q l c;cases q with
  |none=>let⟨_,_,e⟩:=mf ha;cases e
  |some q=>let⟨n,i⟩:=q;let⟨_,_,_,_,_,e⟩:=vX ha;cases e
 ·rcases ha with⟨_,_,_,_,e,_⟩|⟨_,_,_,_,e,_⟩<;>cases e
 ·let⟨_,_,_,e⟩:=ha;cases e
 ·rename_i q;cases q<;>simp only[VR] at ha<;>first|(cases ha;done)|(let⟨_,_,_,e⟩:=ha;cases e)
 ·let⟨_,_,_,e,_⟩:=ha;cases e
 ·let⟨_,_,_,e⟩:=ha;cases e
 ·let⟨_,e,_⟩:=ha;cases e
 ·let⟨_,e,_⟩:=ha;cases e
 ·let⟨_,e,_⟩:=ha;cases e
theorem anv{b:Bool}(ha:VR ρ a<|.bool b):a= .bool b:=by
 cases a<;>(try simp only[VR] at ha)<;>first|(cases ha;rfl)|(cases ha;done)|skip
 ·rename_i q;cases q<;>simp only[VR] at ha<;>first|(cases ha;done)|(let⟨_,_,_,e⟩:=ha;cases e)
 ·rename_i q l c;cases q with
  |none=>let⟨_,_,e⟩:=mf ha;cases e
  |some q=>let⟨n,i⟩:=q;let⟨_,_,_,_,_,e⟩:=vX ha;cases e
 ·rcases ha with⟨_,_,_,_,e,_⟩|⟨_,_,_,_,e,_⟩<;>cases e
 ·let⟨_,_,_,e⟩:=ha;cases e
 ·rename_i q;cases q<;>simp only[VR] at ha<;>first|(cases ha;done)|(let⟨_,_,_,e⟩:=ha;cases e)
 ·let⟨_,_,_,e,_⟩:=ha;cases e
 ·let⟨_,_,_,e⟩:=ha;cases e
 ·let⟨_,e,_⟩:=ha;cases e
 ·let⟨_,e,_⟩:=ha;cases e
 ·let⟨_,e,_⟩:=ha;cases e
theorem ad3(hk:P.underlying k=some kd)(hz:vj key=true)(hp:plainKey P k key=false)(hv:VR ρ key v)(u:Value):Instr.sameNow kd v u=none:=by
 cases e:Instr.sameNow kd v u with
 |none=>rfl
 |some c=>
  exfalso;unfold Instr.sameNow at e;unfold plainKey at hp;rw[hk] at hp;split at e<;>first|(cases e;done)|skip
  ·rw[agS hv] at hp;cases hp
  ·rw[agT hz hv] at hp;cases hp
  ·rw[anv hv] at hp;cases hp
theorem XE{o:Option<|Option<|Nat×AV}(h:(match vj key with|false=>none|true=>o)=some r):vj key=true:=by
 cases hz:vj key with
 |false=>rw[hz] at h;cases h
 |true=>rfl
theorem aaA(hk:P.underlying k=some kd)(hv:VR ρ key v)(he:eA ρ es l)(h:findKey P k key es=some r):
 ∃r',(Instr.findKey k v l).run P w= .ok r' w/\ER ρ es l 0 r r':=by
 unfold findKey at h;cases hz:vj key with
 |false=>rw[hz] at h;cases h
 |true=>
 simp only[hz] at h;cases hp:plainKey P k key with
 |true=>simp only[hp] at h;let⟨r',g1,g2⟩:=aag hk hp hv he h;exact⟨r',MapKept.run_findKey hk g1,g2⟩
 |false=>
  simp only[hp] at h;let⟨r',g1,g2⟩:=aal (P:=P) (w:=w) hv he h;refine⟨r',?_,g2⟩;cases l with
  |nil=>
   have C6:Result.ok none w=Result.ok r' w:=g1;injection C6 with C6;subst C6
   exact MapKept.run_findKey hk rfl
  |cons e l=>
   have:Instr.findNow kd v (e::l) 0=none:=by simp only[Instr.findNow,ad3 hk hz hp hv e.key]
   simp only[Instr.findKey,TF,dJ hk,TH,this];exact g1
theorem Nv:∀{es:List<|AV×AV} {i:Nat},lu key es i=some none->∀p∈es,sameKey key p.1=some false
 |[],_,_,p,hp=>by cases hp
 |(a,b)::es,i,h,p,hp=>by
  simp only[lu] at h;cases q:sameKey key a with
  |none=>rw[q] at h;cases h
  |some c=>
   cases c with
   |true=>simp only[q] at h;cases h
   |false=>
    simp only[q] at h;rcases Ty.1 hp with rfl|hp
    ·exact q
    ·exact Nv h p hp
theorem aac{key:AV}:∀{es:List<|AV×AV} {i j:Nat} {x:AV},lu key es i=some (some (j,x))->i<=j/\∃q,es[j - i]? =some q/\q.2=x/\sameKey key q.1=some true
 |[],_,_,_,h=>by simp[lu] at h
 |(a,b)::es,i,j,x,h=>by
  simp only[lu] at h;cases q:sameKey key a with
  |none=>rw[q] at h;cases h
  |some c=>
   cases c with
   |true=>
    simp only[q] at h;injection h with h;injection h with h;injection h with h1 h2;subst h1;subst h2
    exact⟨Tz _,(a,b),by simp,rfl,q⟩
   |false=>simp only[q] at h;let⟨h1,p,h2,h3⟩:=aac h;refine⟨by omega,p,?_,h3⟩;rw[show j - i=(j - (i+1))+1 from by omega];simpa using h2
end
end
section
variable {v u:Value} {a b key:AV} {l l':List MapEntry} {es:List<|AV×AV} {ty:TypeId} {kd:TypeDesc}
theorem NA(h:sameKey a b=some true)(c:AV):sameKey a c=sameKey b c:=by
 unfold sameKey at h;split at h<;>first|(cases h;done)|skip
 ·rename_i k x k' y;cases hk:decide (k=k') with
  |false=>rw[hk] at h;cases h
  |true=>
   rw[hk] at h;injection h with h
   have e1:=of_decide_eq_true hk;have e2:x=y:=by simpa using h
   rw[e1,e2]
 ·rename_i x y;injection h with h
  rw[bytes_beq] at h;have e:x.toList=y.toList:=by simpa using h
  cases c<;>first|rfl|simp only[sameKey,bytes_beq,e]
 ·rename_i x y;injection h with h
  have e:x=y:=by simpa using h
  rw[e]
theorem NB(a b:AV):sameKey a b=sameKey b a:=by
 cases a<;>cases b<;>first|rfl|skip
 ·rename_i x y;cases x<;>cases y<;>rfl
 ·rename_i k x k' y;by_cases e:k=k'
  ·subst e;show(match decide (k=k) with|true=>some (x == y)|false=>none)=(match decide (k=k) with|true=>some (y == x)|false=>none);rw[decide_eq_true (rfl:k=k)];show some (x == y)=some (y == x);rw[BEq.comm]
  ·show(match decide (k=k') with|true=>some (x == y)|false=>none)=(match decide (k'=k) with|true=>some (y == x)|false=>none);rw[decide_eq_false e,decide_eq_false<|Ne.symm e]
 ·rename_i x y;show some (x == y)=some (y == x);rw[bytes_beq,bytes_beq,BEq.comm]
theorem lL.at{es:List<|AV×AV}(h:lL es){i j:Nat}{p q:AV×AV}(hi:es[i]? =some p)(hj:es[j]? =some q)(cz:i≠j):sameKey p.1 q.1=some false:=by
 unfold lL at h;rw[V7] at h;let⟨li,ei⟩:=TZ.1 hi;let⟨lj,ej⟩:=TZ.1 hj;rcases UX i j with q'|q'
 ·have:=(h i j li lj q').1;rw[ei,ej] at this;exact this
 ·have:=(h j i lj li ak).2;rw[ei,ej] at this;exact this
theorem NQ{ρ:Ren}(h:sameKey a b=some true)(ha:VR ρ a v)(hb:VR ρ b u)(m:Nat):Instr.sameBits m v u=true:=by
 unfold sameKey at h;split at h<;>first|(cases h;done)|skip
 ·rename_i k x k' y;cases hk:decide (k=k') with
  |false=>rw[hk] at h;cases h
  |true=>
   rw[hk] at h;injection h with h
   simp only[VR] at ha hb;subst ha;subst hb;have e1:=of_decide_eq_true hk;subst e1;cases m<;>simpa[Instr.sameBits] using h
 ·injection h with h
  simp only[VR] at ha hb;subst ha;subst hb;cases m<;>simpa[Instr.sameBits] using h
 ·injection h with h
  simp only[VR] at ha hb;subst ha;subst hb;cases m<;>simpa[Instr.sameBits] using h
theorem aaB{ρ:Ren}(m:Nat):∀{xs ys:List AV} {vs us:List Value},Ed xs ys=true->ax ρ xs vs->ax ρ ys us->vs.length=us.length/\((vs.zip us).all fun(x,y)=>Instr.sameBits m x y)=true
 |[],[],vs,us,_,h1,h2=>by simp only[ax] at h1 h2;subst h1;subst h2;simp
 |[],_::_,_,_,h,_,_=>by simp[Ed] at h
 |_::_,[],_,_,h,_,_=>by simp[Ed] at h
 |x::xs,y::ys,vs,us,h,h1,h2=>by
  simp only[ax] at h1 h2;obtain⟨v,vs,rfl,a1,b1⟩:=h1;obtain⟨u,us,rfl,a2,b2⟩:=h2;simp only[Ed] at h;cases e:sameKey x y with
  |none=>rw[e] at h;cases h
  |some c=>
   cases c with
   |false=>rw[e] at h;cases h
   |true=>rw[e] at h;let⟨p,q⟩:=aaB m h b1 b2;exact⟨by simp[p],by simp only[List.zip_cons_cons,TS,NQ e a1 a2 m,VN];exact q⟩
theorem abr{ρ:Ren}(h:sameBits a b=true)(ha:VR ρ a v)(hb:VR ρ b u)(m:Nat):Instr.sameBits (m+1) v u=true:=by
 unfold sameBits at h;split at h
 ·rename_i xs ys;simp only[VR] at ha hb;obtain⟨vs,rfl,h1⟩:=ha;obtain⟨us,rfl,h2⟩:=hb;let⟨p,q⟩:=aaB m h h1 h2;simp only[Instr.sameBits,TW,beq_iff_eq];exact⟨by simpa using p,q⟩
 ·split at h
  ·rename_i e;exact NQ e ha hb _
  ·cases h
theorem alT{P:Program}{w:World}(h:Instr.sameBits 10000 v u=true):(Instr.keyThatStays v u).run P w= .ok u w:=by simp[Instr.keyThatStays,h]
theorem aam:∀{l:List MapEntry} {i:Nat},(∀e∈l,Instr.sameNow kd v e.key=some false)->Instr.findNow kd v l i=some none
 |[],_,_=>rfl
 |e::l,i,h=>by simp only[Instr.findNow,h e TA];exact aam fun e he=>h e<|TB _ he
theorem aan{kd:TypeDesc}{v:Value}:∀{l:List MapEntry} {i:Nat},(∀e∈l,∃c,Instr.sameNow kd v e.key=some c)->(∃e∈l,Instr.sameNow kd v e.key=some true)->
 ∃j e,l[j]? =some e/\Instr.sameNow kd v e.key=some true/\Instr.findNow kd v l i=some (some (i+j,e.val))
 |[],_,_,h=>by let⟨_,h,_⟩:=h;cases h
 |e::l,i,h,k=>by
  let⟨c,hc⟩:=h e TA;cases c with
  |true=>exact⟨0,e,rfl,hc,by simp only[Instr.findNow,hc,Ul]⟩
  |false=>
   let⟨e2,h2,h3⟩:=k;have ti:e2∈l:=by
    rcases Ty.1 h2 with rfl|h2
    ·rw[hc] at h3;cases h3
    ·exact h2
   let⟨j,e3,g1,g2,g3⟩:=aan (i:=i+1) (fun e he=>h e<|TB _ he) ⟨e2,ti,h3⟩;exact⟨j+1,e3,by simpa using g1,g2,by simp only[Instr.findNow,hc];rw[g3];congr 3;omega⟩
section
variable {P:Program} {B:aE} {ρ:Ren} {w:World} {s s1:AS} {x:AV} {Tu:aJ} {t:Tr AV} {ev:Operand->Value} {o:Oper}
theorem eA.get:∀{es:List<|AV×AV} {l:List MapEntry} {i:Nat} {e:MapEntry},eA ρ es l->l[i]? =some e->∃p,es[i]? =some p/\VR ρ p.1 e.key/\VR ρ p.2 e.val
 |[],l,i,e,h,k=>by have h':l=[]:=h;subst h';simp at k
 |p::es,l,i,e,h,k=>by
  obtain⟨e2,l2,rfl,h1,h2,h3⟩:=h;cases i with
  |zero=>simp at k;subst k;exact⟨p,rfl,h1,h2⟩
  |succ i=>simp at k;let⟨q,g1,g2⟩:=h3.get k;exact⟨q,by simpa using g1,g2⟩
theorem eA.get'{i:Nat}{p:AV×AV}(h:eA ρ es l)(k:es[i]? =some p):∃e,l[i]? =some e/\VR ρ p.1 e.key/\VR ρ p.2 e.val:=by let⟨li,ei⟩:=TZ.1 k;have hl:=h.length;have hi:l[i]? =some (l[i]'ak):=TE _;let⟨q,g1,g2⟩:=h.get hi;rw[k] at g1;cases g1;exact⟨_,hi,g2⟩
theorem aaC{k:TypeId}{r:Option<|Nat×AV}(hk:P.underlying k=some kd)(hp:plainKey P k key=true)(hv:VR ρ key v)(ka:lL es)(he:eA ρ es l')(hl:l.Perm l')(h:lu key es 0=some r):
 (r=none->Instr.findNow kd v l 0=some none)/\(∀j y,r=some (j,y)->∃j' e,Instr.findNow kd v l 0=some (some (j',e.val))/\l[j']? =some e/\l'[j]? =some e/\VR ρ y e.val/\∃p,es[j]? =some p/\sameKey key p.1=some true):=by
 have aw:∀e∈l,∃(j:Nat) (p:AV×AV),l'[j]? =some e/\es[j]? =some p/\VR ρ p.1 e.key/\VR ρ p.2 e.val:=by
  intro e hm;let⟨j,hj,e1⟩:=List.getElem_of_mem<|hl.mem_iff.1 hm;have tj:l'[j]? =some e:=by rw[TE hj,e1]
  let⟨p,g1,g2,g3⟩:=he.get tj;exact⟨j,p,tj,g1,g2,g3⟩
 constructor
 ·intro hr;subst hr;refine aam fun e hm=>?_;let⟨j,p,g1,g2,g3,g4⟩:=aw e hm;exact Gi hk hp (Nv h p<|TY g2) hv g3
 ·intro j y hr;subst hr;let⟨_,q,h1,h2,h3⟩:=aac h;rw[Uk] at h1;have all:∀e∈l,∃(j2:Nat) (p:AV×AV),l'[j2]? =some e/\es[j2]? =some p/\VR ρ p.2 e.val/\Instr.sameNow kd v e.key=some (decide<|j2=j):=by
   intro e hm;let⟨j2,p,g1,g2,g3,g4⟩:=aw e hm;refine⟨j2,p,g1,g2,g4,?_⟩;by_cases e2:j2=j
   ·subst e2;rw[h1] at g2;cases g2;simp only[decide_true];exact Gi hk hp h3 hv g3
   ·rw[decide_eq_false e2];refine Gi hk hp ?_ hv g3;rw[NA h3];exact ka.at h1 g2<|Ne.symm e2
  let⟨e0,g1,g2,g3⟩:=he.get' h1;have AZ:e0∈l:=hl.mem_iff.2<|TY g1;let⟨j',e,f1,f2,f3⟩:=aan (kd:=kd) (v:=v) (l:=l) (i:=0) (fun e hm=>let ⟨_,_,_,_,_,h⟩:=all e hm;⟨_,h⟩) ⟨e0,AZ,Gi hk hp h3 hv g2⟩;rw[T6] at f3;let⟨j2,p,a1,a2,a3,a4⟩:=all e<|TY f1;rw[f2] at a4;injection a4 with a4
  have e2:j2=j:=by simpa using a4.symm
  subst e2;rw[h1] at a2;cases a2;exact⟨j',e,f3,f1,a1,by rw[←h2];exact a3,q,h1,h3⟩
theorem ab6(h:short es=true)(he:eA ρ es l')(hl:l.Perm l'):eA ρ es l:=by
 have hlen:=he.length;unfold short at h;split at h<;>first|(cases h;done)|skip
 ·have:l'=[]:=by cases l'<;>first|rfl|simp at hlen
  subst this;rw[List.perm_nil.1 hl];exact he
 ·match l',hlen,hl,he with
  |[e],_,hl,he=>rw[List.perm_singleton.1 hl];exact he
theorem VR.mW{ok b:Bool}{y:AV}{v:Value}(h:VR ρ y v):VR ρ (mW ok y b) (if ok=true then .tuple #[v,.bool b] else v):=by
 cases ok with
 |false=>exact h
 |true=>simp only[Rn.mW,if_true,VR,ax];exact⟨_,rfl,v,_,rfl,h,.bool b,_,rfl,rfl,rfl⟩
theorem NR:∀{d:Nat} {k:TypeId} {key:AV},pj P d k key=true->∃kd,P.underlying k=some kd
 |0,_,_,h=>by simp only[pj] at h;cases h
 |d+1,k,key,h=>by
  simp only[pj] at h;cases q:P.underlying k with
  |none=>rw[q] at h;cases h
  |some kd=>exact⟨kd,rfl⟩
theorem abD{ok:Bool}{va vk:Value}(ha:VR ρ a va)(qp:VR ρ key vk)(fi:bH s)(r:Rel B ρ s.h w)(h:zV P ty a key ok s= .ok x s1):
 kx P B ρ s s1 w x (Instr.lookup ty va vk ok):=by
 unfold zV at h;cases e1:P.underlying ty with
 |none=>simp only[e1] at h;cases h
 |some d=>
  cases d<;>simp only[e1] at h<;>first|(cases h;done)|skip
  rename_i k e;let⟨es,s2,h1,h2⟩:=M.aQ h;let⟨h3,h4⟩:=dv h2;let⟨f,h5,h6⟩:=bz h4;have tq:∃kd,P.underlying k=some kd:=by exact NR h3
  let⟨kd,tq⟩:=tq;have xr:∀em,(Instr.checkKey em 10000 k vk).run P w= .ok () w:=fun em=>Js h3 qp;have main:∃l:Array MapEntry,((va= .map none/\l= #[])\/∃b bu,va= .map (some b)/\w.heap[b]? =some (.map l bu))/\s2.h=s.h/\s2.nx=s.nx/\
   ∃r',(Instr.findKey k vk l.toList).run P w= .ok r' w/\(f=none->r'=none)/\(∀j y,f=some (j,y)->∃j' z,r'=some (j',z)/\VR ρ y z):=by
   have exact:∀l:Array MapEntry,eA ρ es l.toList->∃r',(Instr.findKey k vk l.toList).run P w= .ok r' w/\(f=none->r'=none)/\(∀j y,f=some (j,y)->∃j' z,r'=some (j',z)/\VR ρ y z):=by intro l he;let⟨r',g1,g2⟩:=aaA (P:=P) (w:=w) tq qp he h5;refine⟨r',g1,fun q=>by subst q;exact g2,fun j y q=>?_⟩;subst q;let⟨z,_,_,q1,q2,_⟩:=g2;exact⟨j,z,q1,q2⟩
   unfold z8 at h1;split at h1
   ·obtain⟨rfl,rfl⟩:=bG h1;simp only[VR] at ha;subst ha;exact⟨#[],.inl ⟨rfl,rfl⟩,rfl,rfl,exact #[] rfl⟩
   ·rename_i m;let⟨ob,s3,h7,h8⟩:=M.aQ h1;let⟨hx,hg,hh,cM⟩:=gr h7;have ht:m<top:=TJ hx fi.nx;simp only[VR] at ha;obtain⟨b,N,hm,rfl⟩:=ha;let⟨o',hb,hO,_⟩:=r.block ht hg hm;cases ob with
    |map iw bu=>obtain⟨rfl,rfl⟩:=bG h8;obtain⟨l,rfl,_,q⟩:=hO;exact⟨l,.inr ⟨b,bu,rfl,hb⟩,hh,cM,exact l q.eqs⟩
    |lN iw=>
     let⟨h9,gT⟩:=dv h8;obtain⟨rfl,rfl⟩:=bG gT;obtain⟨l,bu,rfl,ka,_,l',hp,he⟩:=hO;refine⟨l,.inr ⟨b,bu,rfl,hb⟩,hh,cM,?_⟩;cases q:plainKey P k key with
     |false=>rw[q] at h9;exact exact l<|ab6 h9 he hp
     |true=>
      unfold findKey at h5;have hz:vj _=true:=XE h5;simp only[hz] at h5;simp only[q] at h5;let⟨g1,g2⟩:=aaC tq q qp ka he hp h5;cases f with
      |none=>exact⟨none,MapKept.run_findKey tq<|g1 rfl,(fun _=>rfl),(fun j y e=>by cases e)⟩
      |some p=>let⟨j,y⟩:=p;let⟨j',e,f1,_,_,f2,_⟩:=g2 j y rfl;exact⟨some (j',e.val),MapKept.run_findKey tq f1,(fun e=>by cases e),(fun j y e2=>by cases e2;exact⟨j',_,rfl,f2⟩)⟩
    |_=>cases h8
   ·cases h1
  let⟨l,m1,m2,m3,r',m4,m5,m6⟩:=main;cases f with
  |some p=>
   let⟨j,y⟩:=p;obtain⟨rfl,rfl⟩:=bG h6;obtain⟨j',z,rfl,hz⟩:=m6 j y rfl;refine⟨ρ,w,_,by rw[m3];exact Ext.refl _ _ _,?_,hz.mW,by rw[m2];exact r,cI.refl _ _⟩;rcases m1 with⟨rfl,rfl⟩|⟨b,bu,rfl,hb⟩
   ·simp only[Instr.lookup,TF,dJ e1,TH,xr,m4,TK]
   ·simp only[Instr.lookup,TF,dJ e1,TH,MapKept.run_getObj_map hb,xr,m4,TK]
  |none=>
   let⟨z,h7,h8⟩:=bz h6;obtain⟨rfl,rfl⟩:=bG h8;have:=m5 rfl;subst this;let⟨vz,g1,g2⟩:=Ja (P:=P) (w:=w) ρ h7;refine⟨ρ,w,_,by rw[m3];exact Ext.refl _ _ _,?_,g2.mW,by rw[m2];exact r,cI.refl _ _⟩;rcases m1 with⟨rfl,rfl⟩|⟨b,bu,rfl,hb⟩
   ·simp only[Instr.lookup,TF,dJ e1,TH,xr,m4,TK,g1]
   ·simp only[Instr.lookup,TF,dJ e1,TH,MapKept.run_getObj_map hb,xr,m4,TK,g1]
theorem abE{y z:Operand}{ok:Bool}(he:∀x v,aF t x=some v->VR ρ v (ev x))(fi:bH s)(r:Rel B ρ s.h w)(h:ye P ty y z ok Tu t s= .ok x s1)(ho:o.op= .lookup ty y z ok):gD P B ρ s s1 w x<|execOp ev o:=by unfold ye at h;let⟨a,h1,h2⟩:=bz h;let⟨b,h3,h4⟩:=bz h2;have:=(abD (P:=P) (he y a h1) (he z b h3) fi r h4).op;simpa only[execOp,ho] using this
end
end
section
variable {key:AV} {vv vk:Value} {es:List<|AV×AV} {e:MapEntry} {ty:TypeId} {l:List MapEntry} {i bu:Nat}
theorem alU:∀(es:List<|AV×AV) (i j:Nat) (k v:AV),(putAt es i k v)[j]? =if j=i then(es[j]?).map (fun _=>(k,v)) else es[j]?
 |[],i,j,k,v=>by simp[putAt]
 |p::es,0,j,k,v=>by cases j<;>simp[putAt]
 |p::es,i+1,j,k,v=>by
  cases j with
  |zero=>simp[putAt]
  |succ j=>simp[putAt,alU es i j k v]
theorem aao:∀(es:List<|AV×AV) (i:Nat) (k v:AV),(putAt es i k v).length=es.length
 |[],_,_,_=>rfl
 |_::_,0,_,_=>rfl
 |_::es,i+1,k,v=>by simp[putAt,aao es i k v]
def rY(k v:Value)(e:MapEntry):MapEntry:={e with key:=k,val:=v}
theorem kF.put{ρ:Ren}{val:AV}(hk:VR ρ key vk)(hv:VR ρ val vv):∀{es:List<|AV×AV} {l:List MapEntry} {n i:Nat},kF ρ es l n->kF ρ (putAt es i key val) (l.modify i<|rY vk vv) n
 |[],l,n,i,h=>by have h':l=[]:=h;subst h';cases i<;>rfl
 |p::es,l,n,0,h=>by obtain⟨e,l',rfl,a,b,c,d⟩:=h;exact⟨rY vk vv e,l',rfl,hk,hv,c,d⟩
 |p::es,l,n,i+1,h=>by obtain⟨e,l',rfl,a,b,c,d⟩:=h;exact⟨e,l'.modify i<|rY vk vv,rfl,a,b,c,d.put hk hv⟩
theorem eA.put{ρ:Ren}{val:AV}(hk:VR ρ key vk)(hv:VR ρ val vv):∀{es:List<|AV×AV} {l:List MapEntry} {i:Nat},eA ρ es l->eA ρ (putAt es i key val) (l.modify i<|rY vk vv)
 |[],l,i,h=>by have h':l=[]:=h;subst h';cases i<;>rfl
 |p::es,l,0,h=>by obtain⟨e,l',rfl,a,b,d⟩:=h;exact⟨rY vk vv e,l',rfl,hk,hv,d⟩
 |p::es,l,i+1,h=>by obtain⟨e,l',rfl,a,b,d⟩:=h;exact⟨e,l'.modify i<|rY vk vv,rfl,a,b,d.put hk hv⟩
theorem kF.push{ρ:Ren}{val:AV}(hk:VR ρ key e.key)(hv:VR ρ val e.val):∀{es:List<|AV×AV} {l:List MapEntry} {n:Nat},kF ρ es l n->e.born=n+es.length->kF ρ (es++[(key,val)]) (l++[e]) n
 |[],l,n,h,hb=>by have h':l=[]:=h;subst h';exact⟨e,[],rfl,hk,hv,hb,rfl⟩
 |p::es,l,n,h,hb=>by obtain⟨e2,l',rfl,a,b,c,d⟩:=h;exact⟨e2,l'++[e],rfl,a,b,c,d.push hk hv (by simp at hb;omega)⟩
theorem eA.push{ρ:Ren}{val:AV}(hk:VR ρ key e.key)(hv:VR ρ val e.val):∀{es:List<|AV×AV} {l:List MapEntry},eA ρ es l->eA ρ (es++[(key,val)]) (l++[e])
 |[],l,h=>by have h':l=[]:=h;subst h';exact⟨e,[],rfl,hk,hv,rfl⟩
 |p::es,l,h=>by obtain⟨e2,l',rfl,a,b,d⟩:=h;exact⟨e2,l'++[e],rfl,a,b,d.push hk hv⟩
theorem lL.of(h:∀(i j:Nat) (p q:AV×AV),i≠j->es[i]? =some p->es[j]? =some q->sameKey p.1 q.1=some false):lL es:=by unfold lL;rw[V7];intro i j hi hj lZ;exact⟨h i j _ _ ak (TE hi)<|TE hj,h j i _ _ ak (TE hj)<|TE hi⟩
theorem lL.put(h:lL es){p:AV×AV}{val:AV}(hi:es[i]? =some p)(hk:sameKey key p.1=some true):lL<|putAt es i key val:=by
 refine lL.of fun j k a b hjk ha hb=>?_;rw[alU] at ha hb;by_cases e1:j=i
 ·have e2:k≠i:=by omega
  rw[if_pos e1,e1,hi] at ha;rw[if_neg e2] at hb;simp only[Uj,Ud] at ha;rw[←ha];show sameKey key b.1=some false;rw[NA hk];exact h.at hi hb<|Ne.symm e2
 ·rw[if_neg e1] at ha;by_cases e2:k=i
  ·rw[if_pos e2,e2,hi] at hb;simp only[Uj,Ud] at hb;rw[←hb];show sameKey a.1 key=some false;rw[NB,NA hk];exact h.at hi ha<|Ne.symm e1
  ·rw[if_neg e2] at hb;exact h.at ha hb hjk
theorem lL.push(h:lL es){val:AV}(hk:∀p∈es,sameKey key p.1=some false):lL<|es++[(key,val)]:=by unfold lL at h ⊢;rw[List.pairwise_append];refine⟨h,by simp,fun a ha b hb=>?_⟩;simp only[TC] at hb;subst hb;exact⟨by rw[NB];exact hk a ha,hk a ha⟩
theorem OP{α:Type}(f:α->α):∀{l:List α} {j:Nat} {e:α},l[j]? =some e->l.Perm (e::l.eraseIdx j)/\(l.modify j f).Perm (f e::l.eraseIdx j)
 |[],j,e,h=>by simp at h
 |a::l,0,e,h=>by simp at h;subst h;exact⟨UL _,UL _⟩
 |a::l,j+1,e,h=>by
  simp at h;let⟨p,q⟩:=OP f h;refine⟨?_,?_⟩
  ·exact(p.cons a).trans<|Vz _ _ _
  ·rw[List.modify_succ_cons];exact(q.cons a).trans<|Vz _ _ _
theorem acQ{α:Type}(f:α->α){l l':List α}{j:Nat}{e:α}(hl:l.Perm l')(hi:l[i]? =some e)(hj:l'[j]? =some e):(l.modify i f).Perm<|l'.modify j f:=by let⟨p,q⟩:=OP f hi;let⟨p',q'⟩:=OP f hj;have:=((p.symm.trans hl).trans p').cons_inv;exact(q.trans<|this.cons _).trans q'.symm
theorem NI(k v:Value):∀(l:List MapEntry) (i:Nat),(l.modify i<|rY k v).map (·.born)=l.map (·.born)
 |[],i=>by cases i<;>rfl
 |e::l,0=>rfl
 |e::l,i+1=>by rw[List.modify_succ_cons];simp[NI k v l i]
theorem ui.modify(h:ui l bu)(k v:Value)(i:Nat):ui (l.modify i<|rY k v) bu:=by refine⟨by rw[NI];exact h.1,fun e he=>?_⟩;have:e.born∈(l.modify i<|rY k v).map (·.born):=UZ he;rw[NI] at this;let⟨e2,h2,h3⟩:=TI.1 this;rw[←h3];exact h.2 e2 h2
theorem ui.push(h:ui l bu)(he:e.born=bu):ui (l++[e])<|bu+1:=by
 refine⟨?_,fun e2 h2=>?_⟩
 ·rw[Vm,List.nodup_append];refine⟨h.1,by simp,fun a ha b hb=>?_⟩;simp only[T0,U5,TC] at hb;let⟨e2,h2,h3⟩:=TI.1 ha;have:=h.2 e2 h2;omega
 ·rcases TP.1 h2 with h2|h2
  ·have:=h.2 e2 h2;omega
  ·simp only[TC] at h2;subst h2;omega
section
variable {P:Program} {B:aE} {ρ:Ren} {w:World} {s s1:AS} {x:AV} {Tu:aJ} {t:Tr AV} {ev:Operand->Value} {o:Oper}
theorem DS{w:World}{b:Nat}{o o':Obj}(hb:w.heap[b]? =some o):
 wu b w {w with heap:=w.heap.setIfInBounds b o'}/\({w with heap:=w.heap.setIfInBounds b o'}:World).heap[b]? =some o':=by
 refine⟨⟨rfl,rfl,rfl,by simp,fun k hk=>?_⟩,?_⟩
 ·show(w.heap.setIfInBounds b o')[k]? =w.heap[k]?;rw[Vh ak]
 ·show(w.heap.setIfInBounds b o')[b]? =some o';exact Vg<|gC hb
theorem ab7{m val:AV}{vm:Value}{u:Unit}(hm:VR ρ m vm)(qp:VR ρ key vk)(eX:VR ρ val vv)(fi:bH s)(r:Rel B ρ s.h w)(h:yo P ty m key val s= .ok u s1):
 s1.nx=s.nx/\∃w',(Instr.mapUpdate ty vm vk vv).run P w= .ok () w'/\Rel B ρ s1.h w'/\cI B w w':=by
 unfold yo at h;cases e1:P.underlying ty with
 |none=>simp only[e1] at h;cases h
 |some d=>
  cases d<;>simp only[e1] at h<;>first|(cases h;done)|skip
  rename_i k e;cases m<;>first|(cases h;done)|skip
  rename_i q;cases q with
  |none=>cases h
  |some n=>
   simp only[VR] at hm;obtain⟨b,N,hn,rfl⟩:=hm;let⟨ob,s2,h1,h2⟩:=M.aQ h;let⟨hx,hg,hh,cM⟩:=gr h1;have ht:n<top:=TJ hx fi.nx;let⟨o',hb,hO,hB⟩:=r.block ht hg hn;cases ob with
   |map es bu=>
    let⟨h3,h4⟩:=dv h2;let⟨f,h5,h6⟩:=bz h4;obtain⟨l,rfl,Ew,he⟩:=hO;let⟨kd,tq⟩:=NR h3;have xr:∀em,(Instr.checkKey em 10000 k vk).run P w= .ok () w:=fun em=>Js h3 qp;let⟨r',g1,g2⟩:=aaA (P:=P) (w:=w) tq qp he.eqs h5;cases f with
    |some p=>
     let⟨j,y⟩:=p;obtain⟨z,q,e0,rfl,_,_,q1,q2,q3,_,_⟩:=g2;rw[Uk] at q1 q2;let⟨dM,h7,h8⟩:=bz (show(aB es[j]? fun dM=>aG (sameBits dM.1 key) <| bS n<|some<|.map (putAt es j key val) bu) s2= .ok u s1 from h6);let⟨h9,gT⟩:=dv h8;rw[q1] at h7;cases h7;have QJ:=abr h9 q3 qp 9999;let⟨_,_,_,i1,i2⟩:=jP gT;let⟨g3,g4⟩:=DS (o':=.map (l.modify j<|rY vk vv) bu) hb;refine⟨by rw[i2,cM],_,?_,?_,g3.below<|hB rfl⟩
     ·have hl:l[j]? =some e0:=by simpa using q2
      simp only[Instr.mapUpdate,TF,dJ e1,TH,MapKept.run_getObj_map hb,xr,g1,hl,Uj,VA,alT QJ,MapKept.run_setObj_map _ hb];rfl
     ·rw[i1,hh];refine r.put ht hg rfl rfl hn rfl g3 g4 ⟨_,rfl,by rw[aao];exact Ew,?_⟩;rw[V8];exact he.put qp eX
    |none=>
     have A0:r'=none:=g2;subst A0;let⟨_,_,_,i1,i2⟩:=jP (show bS n (some<|.map (es++[(key,val)])<|bu+1) s2= .ok u s1 from h6);let⟨g3,g4⟩:=DS (o':=.map (l.push {key:=vk,val:=vv,born:=bu})<|bu+1) hb;refine⟨by rw[i2,cM],_,?_,?_,g3.below<|hB rfl⟩
     ·simp only[Instr.mapUpdate,TF,dJ e1,TH,MapKept.run_getObj_map hb,xr,g1,MapKept.run_setObj_map _ hb]
     ·rw[i1,hh];refine r.put ht hg rfl rfl hn rfl g3 g4 ⟨_,rfl,by simp[Ew],?_⟩;rw[V9];exact he.push qp eX (by simp[Ew])
   |lN es=>
    let⟨h3,h4⟩:=dv h2;let⟨f,h5,h6⟩:=bz h4;let⟨hp,ZJ⟩:=and_true.1 h3;obtain⟨l,bu,rfl,ka,A3,l',hl,he⟩:=hO;let⟨kd,tq⟩:=NR ZJ;have xr:∀em,(Instr.checkKey em 10000 k vk).run P w= .ok () w:=fun em=>Js ZJ qp;unfold findKey at h5;have hz:vj _=true:=XE h5;simp only[hz] at h5;simp only[hp] at h5;let⟨f1,f2⟩:=aaC tq hp qp ka he hl h5;cases f with
    |some p=>
     let⟨j,y⟩:=p;let⟨j',e0,a1,a2,a3,a4,q,a5,a6⟩:=f2 j y rfl;let⟨_,_,_,i1,i2⟩:=jP (show bS n (some<|.lN<|putAt es j key val) s2= .ok u s1 from h6);let⟨g3,g4⟩:=DS (o':=.map (l.modify j'<|rY vk vv) bu) hb;have hq:VR ρ q.1 e0.key:=by let⟨q',b1,b2,_⟩:=he.get a3;rw[a5] at b1;cases b1;exact b2
     have QJ:Instr.sameBits 10000 e0.key vk=true:=NQ (by rw[NB];exact a6) hq qp 10000;refine⟨by rw[i2,cM],_,?_,?_,g3.below<|hB rfl⟩
     ·have zi:l[j']? =some e0:=by simpa using a2
      simp only[Instr.mapUpdate,TF,dJ e1,TH,MapKept.run_getObj_map hb,xr,MapKept.run_findKey tq a1,zi,Uj,VA,alT QJ,MapKept.run_setObj_map _ hb];rfl
     ·rw[i1,hh];refine r.put ht hg rfl rfl hn rfl g3 g4 ⟨_,_,rfl,ka.put a5 a6,?_,l'.modify j<|rY vk vv,?_,he.put qp eX⟩
      ·rw[V8];exact A3.modify _ _ _
      ·rw[V8];exact acQ _ hl a2 a3
    |none=>
     let⟨_,_,_,i1,i2⟩:=jP (show bS n (some<|.lN<|es++[(key,val)]) s2= .ok u s1 from h6);let⟨g3,g4⟩:=DS (o':=.map (l.push {key:=vk,val:=vv,born:=bu})<|bu+1) hb;refine⟨by rw[i2,cM],_,?_,?_,g3.below<|hB rfl⟩
     ·simp only[Instr.mapUpdate,TF,dJ e1,TH,MapKept.run_getObj_map hb,xr,MapKept.run_findKey tq<|f1 rfl,MapKept.run_setObj_map _ hb]
     ·rw[i1,hh];refine r.put ht hg rfl rfl hn rfl g3 g4 ⟨_,_,rfl,ka.push<|Nv h5,?_,l'++[{key:=vk,val:=vv,born:=bu}],?_,eA.push (e:={key:=vk,val:=vv,born:=bu}) qp eX he⟩
      ·rw[V9];exact A3.push rfl
      ·rw[V9];exact hl.append_right _
   |_=>cases h2
theorem aaD{a b c:Operand}(he:∀x v,aF t x=some v->VR ρ v (ev x))(fi:bH s)(r:Rel B ρ s.h w)(h:qN P ty a b c Tu t s= .ok x s1)(ho:o.op= .mapUpdate ty a b c\/o.op= .insert ty a b c):gD P B ρ s s1 w x<|execOp ev o:=by unfold qN at h;let⟨m,h1,h2⟩:=bz h;let⟨k,h3,h4⟩:=bz h2;let⟨v,h5,h6⟩:=bz h4;let⟨u,s2,h7,h8⟩:=M.aQ h6;obtain⟨rfl,rfl⟩:=bG h8;let⟨a1,w',a2,a3,a4⟩:=ab7 (P:=P) (he a m h1) (he b k h3) (he c v h5) fi r h7;refine⟨ρ,w',.skip,by rw[a1];exact Ext.refl _ _ _,?_,rfl,a3,a4⟩;rcases ho with ho|ho<;>simp[execOp,ho,a2]
end
end
section
variable {y:Operand} {ty:TypeId} {es:List<|AV×AV} {b:Nat}
section
variable {P:Program} {B:aE} {ρ:Ren} {w:World} {s s1:AS} {x:AV} {Tu:aJ} {t:Tr AV} {ev:Operand->Value} {o:Oper}
theorem kF.born:∀{es:List<|AV×AV} {l:List MapEntry} {n:Nat},kF ρ es l n->l.map (·.born)=VO n es.length
 |[],l,n,h=>by have h':l=[]:=h;subst h';rfl
 |p::es,l,n,h=>by obtain⟨e,l',rfl,a,b,c,d⟩:=h;rw[T0,c,d.born,TL,Wa]
theorem kF.XF{l:List MapEntry}(h:kF ρ es l 0):ui l es.length:=by have hb:=h.born;refine⟨by rw[hb];exact List.nodup_range',fun e he=>?_⟩;have:e.born∈l.map (·.born):=UZ he;rw[hb,List.mem_range'_1] at this;omega
theorem Rel.akf{h:Tr ah}(r:Rel B ρ h w){n m:Nat}{p:ah}{N:Nat}{ex:Bool}{l:Array MapEntry}{bu:Nat}(ZK:n<top)(Ix:ρ n=none)(pJ:m<top)(hg:h.get m=some p)(hp:p.plain=true)(cL:p.dA=false)(hm:ρ m=some (b,N))(hb:w.heap[b]? =some (.map l bu))(A3:ui l.toList bu)(h1:ex=true->bu=es.length/\kF ρ es l.toList 0)(h2:ex=false->lL es/\xm ρ es l.toList)(h3:xm ρ es l.toList):
 Rel B (eW ρ n (w.heap.size,1)) ((h.put m<|some .iT).put n<|some<|.iter m es ex es none) {w with heap:=w.heap.push<|.mapIter (some b) bu #[] bu}:=by
 have hl:ρ.le<|eW ρ n (w.heap.size,1):=oh Ix;have tg:m≠n:=by intro e;subst e;rw[hm] at Ix;cases Ix
 have mD:h.get n=none:=by
  cases e:h.get n with
  |none=>rfl
  |some p=>let⟨_,_,_,h1,_⟩:=r.is n p ZK e;rw[Ix] at h1;cases h1
 have g:∀k,k<top->((h.put m<|some .iT).put n<|some<|.iter m es ex es none).get k=if k=n then some (.iter m es ex es none) else if k=m then some .iT else h.get k:=by intro k hk;rw[Tr.dy _ _ _ _ ZK hk,Tr.dy _ _ _ _ pJ hk]
 have hw:∀k,k<w.heap.size->(w.heap.push<|.mapIter (some b) bu #[] bu)[k]? =w.heap[k]? :=(iq.alloc w _).block;let⟨_,_,_,hB⟩:=r.block pJ hg hm;have size:∀k q,k<top->h.get k=some q->∀b1 N1,ρ k=some (b1,N1)->b1<w.heap.size:=by intro k q hk hq b1 N1 e;let⟨b2,N2,o2,e1,e2,_⟩:=r.is k q hk hq;rw[e] at e1;cases e1;exact gC e2
 have dM:∀k q,k<top->(if k=m then some ah.iT else h.get k)=some q->∃q',h.get k=some q'/\(q.dA=false->q'.dA=false):=by
  intro k q hk hq;by_cases e:k=m
  ·subst e;exact⟨p,hg,fun _=>cL⟩
  ·rw[if_neg e] at hq;exact⟨q,hq,id⟩
 refine⟨?_,?_,?_,fun k hk=>r.size k<|TO j0 hk,?_,r.fz.of hl (fun b1 vt _=>hw b1 vt) (fun b1 vt hn j q M hj hq iy e=>by
  rw[g j hj] at hq;by_cases a:j=n
  ·subst a;rw[jg] at e;cases e;exact absurd vt (US _)
  ·rw[if_neg a] at hq;rw[gO ρ _ a] at e;let⟨q',e1,e2⟩:=dM j q hj hq;exact hn j q' M hj e1 (e2 iy) e),r.tk.of hl (fun j q hj hq yP=>by
  rw[g j hj] at hq;by_cases a:j=n
  ·rw[if_pos a] at hq;cases hq;cases yP
  ·rw[if_neg a] at hq;by_cases a2:j=m
   ·rw[if_pos a2] at hq;cases hq;cases yP
   ·rw[if_neg a2] at hq;exact hq) j0 (fun b1 vt _=>hw b1 vt) (fun b1 vt hn j q M hj hq iy e=>by
  rw[g j hj] at hq;by_cases a:j=n
  ·subst a;rw[jg] at e;cases e;exact absurd vt (US _)
  ·rw[if_neg a] at hq;rw[gO ρ _ a] at e;let⟨q',e1,e2⟩:=dM j q hj hq;exact hn j q' M hj e1 (e2 iy) e) (fun j x sh _ _ e=>by rw[gO ρ _ (by have:=gb j x sh;omega)];exact e)⟩
 ·intro k q hk hq;rw[g k hk] at hq;by_cases e:k=n
  ·subst e;rw[if_pos rfl] at hq;cases hq;refine⟨w.heap.size,1,.mapIter (some b) bu #[] bu,jg _ _ _,by simp,?_,fun _=>r.size _<|Tz _⟩;exact⟨b,N,bu, #[],hl _ _ hm,rfl⟩
  ·rw[if_neg e] at hq;by_cases e2:k=m
   ·subst e2;rw[if_pos rfl] at hq;cases hq;exact⟨b,N,_,hl _ _ hm,(hw b<|gC hb).trans hb,⟨l,bu,rfl⟩,fun _=>hB cL⟩
   ·rw[if_neg e2] at hq;let⟨b1,N1,o1,c1,c2,c3,c4⟩:=r.is k q hk hq;exact⟨b1,N1,o1,hl _ _ c1,(hw b1<|gC c2).trans c2,c3.mono hl,c4⟩
 ·intro k j q q' b1 N1 M1 hk hj hq eN cV e1 e2;rw[g k hk] at hq;rw[g j hj] at eN;by_cases a1:k=n
  ·by_cases a2:j=n
   ·omega
   ·rw[if_neg a2] at eN;subst a1;rw[jg] at e1;cases e1;rw[gO ρ _ a2] at e2;let⟨q2,Iy,ZL⟩:=dM j q' hj eN;exact absurd (size j q2 hj Iy _ _ e2)<|US _
  ·rw[if_neg a1] at hq;rw[gO ρ _ a1] at e1;let⟨q1,MK,ML⟩:=dM k q hk hq;by_cases a2:j=n
   ·subst a2;rw[jg] at e2;cases e2;exact absurd (size k q1 hk MK _ _ e1)<|US _
   ·rw[if_neg a2] at eN;rw[gO ρ _ a2] at e2;let⟨q2,Iy,ZL⟩:=dM j q' hj eN;exact r.one k j q1 q2 b1 N1 M1 hk hj MK Iy (cV.imp ML ZL) e1 e2
 ·intro i m' iw jr left cur hi hq;rw[g i hi] at hq;by_cases e:i=n
  ·subst e;rw[if_pos rfl] at hq;cases hq;refine⟨pJ,by rw[g m pJ,if_neg tg,if_pos rfl],?_⟩;refine⟨w.heap.size,1,b,N,l,bu, #[],jg _ _ _,hl _ _ hm,by simp,(hw b<|gC hb).trans hb,A3,fun e=>⟨(h1 e).1,(h1 e).2.mono hl⟩,fun e=>⟨(h2 e).1,(h2 e).2.mono hl⟩,?_,rfl⟩;have:(l.toList.filter fun e=> !(#[]:Array Nat).contains e.born)=l.toList:=List.filter_eq_self.2 j0;rw[this];exact h3.mono hl
  ·rw[if_neg e] at hq;by_cases e2:i=m
   ·subst e2;rw[if_pos rfl] at hq;cases hq
   ·rw[if_neg e2] at hq;let⟨fG,fE,b1,N1,bm,M,l1,agU,seen,c1,c2,c3,c4,c5⟩:=r.iter i m' iw jr left cur hi hq;have d1:m'≠n:=by intro e3;subst e3;rw[mD] at fE;cases fE
    refine⟨fG,?_,ni.mono hl ⟨b1,N1,bm,M,l1,agU,seen,c1,c2,(hw b1<|gC c3).trans c3,(hw bm<|gC c4).trans c4,c5⟩⟩;rw[g m' fG,if_neg d1];by_cases d2:m'=m
    ·rw[if_pos d2]
    ·rw[if_neg d2];exact fE
 ·have new:∀i,i<top->∀A4 A5 Ak AH,(if i=m then some ah.iT else h.get i)≠some (.iter m A4 A5 Ak AH):=by
   intro i hi A4 A5 Ak AH hq;by_cases e:i=m
   ·rw[if_pos e] at hq;cases hq
   ·rw[if_neg e] at hq;let⟨_,fE,_⟩:=r.iter i m _ _ _ _ hi hq;rw[hg] at fE;cases fE;simp[ah.plain] at hp
  intro i j m' A4 A5 Ak AH MM MO Lo LX hi hj q1 q2;rw[g i hi] at q1;rw[g j hj] at q2;by_cases e:i=n
  ·by_cases e2:j=n
   ·omega
   ·rw[if_pos e] at q1;rw[if_neg e2] at q2;cases q1;exact absurd q2<|new j hj _ _ _ _
  ·rw[if_neg e] at q1;by_cases e2:j=n
   ·rw[if_pos e2] at q2;cases q2;exact absurd q1<|new i hi _ _ _ _
   ·rw[if_neg e2] at q2;by_cases e3:i=m
    ·rw[if_pos e3] at q1;cases q1
    ·rw[if_neg e3] at q1;by_cases e4:j=m
     ·rw[if_pos e4] at q2;cases q2
     ·rw[if_neg e4] at q2;exact r.lone i j m' _ _ _ _ _ _ _ _ hi hj q1 q2
theorem abF{m:Option Nat}{c c':Nat}{seen:Array Nat}(hb:w.heap[b]? =some (.mapIter m c seen c')):(getObj b).run P w= .ok (.mapIter m c seen c') w:=by simp[getObj,Sem.run,hb]
theorem abG{a:AV}{va:Value}(ha:VR ρ a va)(fi:bH s)(r:Rel B ρ s.h w)(hf:dU s.nx s1.nx ρ)(h:BT P ty a s= .ok x s1):kx P B ρ s s1 w x<|Instr.range ty va:=by
 unfold BT at h;cases e1:P.underlying ty with
 |none=>simp only[e1] at h;cases h
 |some d=>
  cases d<;>simp only[e1] at h<;>first|(cases h;done)|skip
  cases a<;>first|(cases h;done)|skip
  rename_i q;cases q with
  |none=>cases h
  |some m=>
   simp only[VR] at ha;obtain⟨b,N,hm,rfl⟩:=ha;let⟨ob,s2,h1,h2⟩:=M.aQ h;let⟨hx,hg,hh,cM⟩:=gr h1;have pJ:m<top:=TJ hx fi.nx;let⟨o',hb,hO,hB⟩:=r.block pJ hg hm;have fin:∀(es:List<|AV×AV) (ex:Bool) (l:Array MapEntry) (bu:Nat),ob.plain=true->ob.dA=false->w.heap[b]? =some (.map l bu)->ui l.toList bu->(ex=true->bu=es.length/\kF ρ es l.toList 0)->(ex=false->lL es/\xm ρ es l.toList)->xm ρ es l.toList->
    ((bS m<|some .iT).bind fun _=>(gQ<|.iter m es ex es none).bind fun n=>M.pure<|.ptr<|some (n,0)) s2= .ok x s1->kx P B ρ s s1 w x (Instr.range ty<|.map<|some b):=by
    intro es ex l bu hp cL gS A3 p1 p2 p3 h3;let⟨u,s3,h4,h5⟩:=M.aQ h3;let⟨n,s4,h6,h7⟩:=M.aQ h5;obtain⟨rfl,rfl⟩:=bG h7;let⟨_,_,_,i1,i2⟩:=jP h4;obtain⟨ht,rfl,rfl⟩:=v8 h6;have e:s3.nx=s.nx:=i2.trans cM;have ji:ρ s3.nx=none:=hf s3.nx ak (UT _) ak;refine⟨eW ρ s3.nx (w.heap.size,1),_,.pointer<|some ⟨w.heap.size,0,none⟩,?_,?_,?_,?_,(iq.alloc w<|.mapIter (some b) bu #[] bu).below r.size⟩
    ·rw[←e];exact Ext.cX ji
    ·simp only[Instr.range,TF,dJ e1,TH,MapKept.run_getObj_map gS,TK,newObj,Sem.run]
    ·simp only[VR];exact⟨_,_,jg _ _ _,rfl⟩
    ·show Rel B _ (s3.h.put s3.nx<|some<|.iter m es ex es none) _;rw[i1,hh];exact r.akf ht ji pJ hg hp cL hm gS A3 p1 p2 p3
   cases ob with
   |map es bu=>obtain⟨l,rfl,Ew,he⟩:=hO;exact fin es true l bu rfl rfl hb (by rw[Ew];exact he.XF) (fun _=>⟨Ew,he⟩) (fun e=>by cases e) ⟨_,UL _,he.eqs⟩ h2
   |lN es=>obtain⟨l,bu,rfl,ka,A3,he⟩:=hO;exact fin es false l bu rfl rfl hb A3 (fun e=>by cases e) (fun _=>⟨ka,he⟩) he h2
   |_=>cases h2
theorem ab8(he:∀x v,aF t x=some v->VR ρ v (ev x))(fi:bH s)(r:Rel B ρ s.h w)(hf:dU s.nx s1.nx ρ)(h:B8 P ty y Tu t s= .ok x s1)(ho:o.op= .range ty y):gD P B ρ s s1 w x<|execOp ev o:=by unfold B8 at h;let⟨a,h1,h2⟩:=bz h;have:=(abG (P:=P) (he y a h1) fi r hf h2).op;simpa only[execOp,ho] using this
theorem find_born{e:MapEntry}:∀{l:List MapEntry},(l.map (·.born)).Nodup->e∈l->l.find? (·.born == e.born)=some e
 |[],_,h=>by cases h
 |a::l,hn,h=>by
  rw[T0,UF] at hn;rcases Ty.1 h with rfl|h
  ·simp
  ·have:(a.born == e.born)=false:=by rw[beq_eq_false_iff_ne];intro q;exact hn.1 (by rw[q];exact UZ h)
   rw[List.find?_cons,this];exact find_born hn.2 h
theorem ab9(he:∀x v,aF t x=some v->VR ρ v (ev x))(fi:bH s)(r:Rel B ρ s.h w)(h:B9 y Tu t s= .ok x s1)(ho:o.op= .entry y):gD P B ρ s s1 w x<|execOp ev o:=by
 unfold B9 at h;let⟨a,h1,h2⟩:=bz h;have ha:=he y a h1;unfold Ef at h2;split at h2
 ·rename_i n;let⟨ob,s2,h3,h4⟩:=M.aQ h2;let⟨hx,hg,hh,cM⟩:=gr h3;have ht:n<top:=TJ hx fi.nx;split at h4
  ·rename_i m es ex left k v;obtain⟨rfl,rfl⟩:=bG h4;let⟨_,_,b,N,bm,M,l,bu,seen,c1,c2,c3,c4,c5,_,_,_,c9⟩:=r.iter n m es ex left _ ht hg;let⟨e,d1,d2,d3,d4⟩:=c9;simp only[VR] at ha;let⟨b',N',q1,q2⟩:=ha;rw[c1] at q1;cases q1;refine⟨ρ,w,.value<|.tuple #[e.key,e.val],by rw[cM];exact Ext.refl _ _ _,?_,?_,by rw[hh];exact r,cI.refl _ _⟩
   ·have hf:l.find? (·.born == e.born)=some e:=by rw[←Array.find?_toList];exact find_born c5.1 d1
    simp only[execOp,ho,q2,Instr.entry,TF,abF c3,TH,d2,MapKept.run_getObj_map c4,bne_self_eq_false,UK,if_false,hf,TK]
   ·simp only[VR,ax];exact⟨_,rfl,_,_,rfl,d3,_,_,rfl,d4,rfl⟩
  ·cases h4
 ·cases h2
theorem abt(he:∀x v,aF t x=some v->VR ρ v (ev x))(fi:bH s)(r:Rel B ρ s.h w)(h:D2 y Tu t s= .ok x s1)(ho:o.op= .next y true):gD P B ρ s s1 w x<|execOp ev o:=by have h':(R.bad:R AV)= .ok x s1:=h;cases h'
end
end
section
variable {y:Operand} {ts:Array TypeId} {args:Array Operand}
def agV(P:Program)(l:Nat)(f:FuncId)(tmps:Array Value)(assign body:Code)(w:World)(R:Value->World->Prop):Prop:=∀(c:Frame) (cs:List Frame),∃v w',R v w'/\Steps P (lone (Frame.round l f tmps assign body .normal) (c::cs) w) (lone (c.finish v) cs w')
def jj(P:Program)(r:Result Next)(R:Value->World->Prop):Prop:=
 match r with
 | .ok (.value v) w=>R v w
 | .ok .skip w=>R undef w
 | .ok (.enter f args) w=>Calls P f args w fun e w'=>∃v,e= .returned v/\R v w'
 | .ok (.round l f tmps assign body) w=>agV P l f tmps assign body w R
 |_=>False
def ky(B:aE)(ρ:Ren)(s s1:AS)(w:World)(x:AV):Value->World->Prop:=fun v w'=>∃σ,Ext s.nx s1.nx ρ σ/\VR σ x v/\Rel B σ s1.h w'/\cI B w w'
structure gk (P:Program) (B:aE) (Tu:aJ):Prop where
 fn:∀(f:FuncId) (args:List AV) (x:AV) (s s1:AS) (ρ:Ren) (w:World) (vs:Array Value),bH s->Rel B ρ s.h w->gG ρ->dU s.nx s1.nx ρ->Tu (.fn f) args s= .ok x s1->ax ρ args vs.toList->
  jj P ((callFunc f vs).run P w) (ky B ρ s s1 w x)
 round:∀(l b N:Nat) (args:List AV) (x:AV) (s s1:AS) (ρ:Ren) (w:World) (vs:Array Value),bH s->Rel B ρ s.h w->gG ρ->dU s.nx s1.nx ρ->Tu (.round l) args s= .ok x s1->ax ρ args vs.toList->
  ρ l=some (b,N)->jj P ((Instr.yield b vs).run P w) (ky B ρ s s1 w x)
 row:Ca B Tu
section
variable {P:Program} {B:aE} {ρ:Ren} {w:World} {s s1:AS} {x:AV} {Tu:aJ} {t:Tr AV} {ev:Operand->Value} {o:Oper}
theorem gD.back{c:Sem Next}(h:gD P B ρ s s1 w x c):jj P (c.run P w)<|ky B ρ s s1 w x:=by
 let⟨σ,w',nv,a,b,d,e,f⟩:=h;rw[b];cases nv<;>first|(cases d;done)|skip
 ·exact⟨σ,a,d,e,f⟩
 ·exact⟨σ,a,by rw[d];exact VR.undef σ,e,f⟩
theorem VR.amF{f:Fn}{a c:List AV}{v:Value}(h:VR ρ (.func f a c) v):anr f=true/\∃p q,v= .func f p q/\ax ρ a p.toList/\ax ρ c q.toList:=by simpa only[VR] using h
theorem acR(hc:gk P B Tu)(he:∀x v,aF t x=some v->VR ρ v (ev x))(hg:gG ρ)(fi:bH s)(r:Rel B ρ s.h w)(hf:dU s.nx s1.nx ρ)(h:uF y args.toList Tu t s= .ok x s1)(ho:o.op= .call ⟨.value y,args,ts⟩):jj P ((execOp ev o).run P w)<|ky B ρ s s1 w x:=by
 unfold uF at h;let⟨l,h1,h2⟩:=bz h;let⟨f,h3,h4⟩:=bz h2;have hl:=GJ he h1;have zj:=he y f h3;unfold nK at h4;split at h4
 ·rename_i g first captured
  let⟨_,p,q,e,hp,hq⟩:=zj.amF;have QK:ax ρ (first++l++captured) (p++args.map ev++q).toList:=by rw[Vx,Vx];exact(hp.append<|by simpa using hl).append hq
  have:=hc.fn g _ x s s1 ρ w _ fi r hg hf h4 QK;simp only[execOp,ho,resolve,Deferred.ofValue,e,TF,TK,TH,invoke];exact this
 ·rename_i n;have kO:=zj;simp only[VR] at kO;let⟨b,N,hn,e⟩:=kO;have:=hc.round n b N _ x s s1 ρ w (args.map ev) fi r hg hf h4 (by simpa using hl) hn;simp only[execOp,ho,resolve,Deferred.ofValue,e,TF,TK,TH,invoke];simpa using this
 ·cases h4
theorem abH{name:String}(hc:gk P B Tu)(he:∀x v,aF t x=some v->VR ρ v (ev x))(hg:gG ρ)(fi:bH s)(r:Rel B ρ s.h w)(hf:dU s.nx s1.nx ρ)(h:Pq P y name args.toList Tu t s= .ok x s1)(ho:o.op= .call ⟨.invoke y name,args,ts⟩):jj P ((execOp ev o).run P w)<|ky B ρ s s1 w x:=by have h':(R.bad:R AV)= .ok x s1:=h;cases h'
end
end
section
variable {P:Program} {B:aE} {ρ:Ren} {w:World} {s s1:AS} {x:AV} {Tu:aJ} {t:Tr AV} {o:Oper}
theorem agW{a:Act}{nt:Nat}(hc:gk P B Tu)(hl:∀t a,Tt<|Tu t a)(ht:TR ρ nt t a.tmps)(hg:gG ρ)(fi:bH s)(r:Rel B ρ s.h w)(hf:dU s.nx s1.nx ρ)(h:(dY P o.op).val Tu t s= .ok x s1):
 (∀c,o.op≠ .defer c)/\jj P ((execOp a.eval o).run P w) (ky B ρ s s1 w x):=by
 have he:∀x v,aF t x=some v->VR ρ v (a.eval x):=fun x v=>Eg ht hg;cases fB:o.op
 all_goals rw[fB] at h
 case move y=>exact⟨by simp,(alP (Tu:=Tu) he r h<|.inl fB).back⟩
 case assign y=>exact⟨by simp,(alP (Tu:=Tu) he r h<|.inr fB).back⟩
 case pick c p q=>exact⟨by simp,(acL (Tu:=Tu) he r h fB).back⟩
 case alloc e=>exact⟨by simp,(abU (Tu:=Tu) (t:=t) r hf h fB).back⟩
 case box e y=>exact⟨by simp,(adX (Tu:=Tu) he r hf h fB).back⟩
 case build ty parts=>exact⟨by simp,(abX (Tu:=Tu) he r h fB).back⟩
 case buildSlice ty len parts=>exact⟨by simp,(aa0 (Tu:=Tu) he r hf h fB).back⟩
 case load ty y=>exact⟨by simp,(acM (Tu:=Tu) hc.row he fi r h fB).back⟩
 case store ty y z=>exact⟨by simp,(abV (Tu:=Tu) he fi r h fB).back⟩
 case nilCheck y=>exact⟨by simp,(aa9 (Tu:=Tu) he r h fB).back⟩
 case binOp op ty y z u=>exact⟨by simp,(adY (Tu:=Tu) he r h fB).back⟩
 case unOp op ty y=>exact⟨by simp,(afh (Tu:=Tu) he r h fB).back⟩
 case convert src dst y=>exact⟨by simp,(abl (Tu:=Tu) he fi r h fB).back⟩
 case makeInterface ty y=>exact⟨by simp,(aaY (Tu:=Tu) he r h fB).back⟩
 case makeFunc fn first captured=>exact⟨by simp,(aba (Tu:=Tu) he r h fB).back⟩
 case makeMap ty y=>exact⟨by simp,(abm (Tu:=Tu) he r hf h fB).back⟩
 case makeSlice ty l c=>exact⟨by simp,(aa5 (Tu:=Tu) he r hf h fB).back⟩
 case slice ty y lo hi mx=>exact⟨by simp,(ab2 (Tu:=Tu) he r h fB).back⟩
 case fieldAddr ty y f=>exact⟨by simp,(aa3 (Tu:=Tu) he r h fB).back⟩
 case field ty y f=>exact⟨by simp,(ab0 (Tu:=Tu) he r h fB).back⟩
 case indexAddr ty y z=>exact⟨by simp,(aa4 (Tu:=Tu) he r h fB).back⟩
 case index ty y z=>exact⟨by simp,(ab1 (Tu:=Tu) he r h fB).back⟩
 case lookup ty y z ok=>exact⟨by simp,(abE (Tu:=Tu) he fi r h fB).back⟩
 case mapUpdate ty m k y=>exact⟨by simp,(aaD (Tu:=Tu) he fi r h<|.inl fB).back⟩
 case insert ty m k y=>exact⟨by simp,(aaD (Tu:=Tu) he fi r h<|.inr fB).back⟩
 case typeAssert y xt asserted ok=>exact⟨by simp,(abA (Tu:=Tu) he r h fB).back⟩
 case range ty y=>exact⟨by simp,(ab8 (Tu:=Tu) he fi r hf h fB).back⟩
 case entry y=>exact⟨by simp,(ab9 (Tu:=Tu) he fi r h fB).back⟩
 case next y R7=>
  cases R7 with
  |true=>exact⟨by simp,(abt (Tu:=Tu) he fi r h fB).back⟩
  |false=>exact absurd (show(fail:M AV) s= .ok x s1 from h) (by intro e;cases e)
 case extract y i=>exact⟨by simp,(abn (Tu:=Tu) he r h fB).back⟩
 case call c=>
  let⟨callee,args,ts⟩:=c;cases callee with
  |builtin b=>exact⟨by simp,(abq (Tu:=Tu) hc.row hl he fi r hf h fB).back⟩
  |value f=>exact⟨by simp,acR hc he hg fi r hf h fB⟩
  |invoke recv name=>exact⟨by simp,abH hc he hg fi r hf h fB⟩
 all_goals (exact absurd (show(fail:M AV) s= .ok x s1 from h) (by intro e;cases e))
end
end Go.Rn
