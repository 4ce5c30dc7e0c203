import Derived.Calls
import Derived.Orders
import Derived.Below
import Derived.Laws.CopyRow
import Derived.Laws.Cells
import Derived.Laws.Tables
import Derived.Laws.StructEq
import Derived.Laws.BytesString
import Derived.IntWalk
set_option maxRecDepth 100000
set_option maxHeartbeats 8000000
set_option linter.unusedSimpArgs false
set_option linter.unusedVariables false
namespace Go.Rn
variable {α:Type} {P:Prop}
noncomputable section
inductive Tr (α:Type) where
 |nil:Tr α
 |node (l:Tr α) (v:Option α) (r:Tr α):Tr α
def Tr.wm(p:List Bool):Tr α->Option α:= @List.rec Bool (fun _=>Tr α->Option α) (fun t=> @Tr.rec α (fun _=>Option α) none (fun _ v _ _ _=>v) t) (fun b _ ih t=> @Tr.rec α (fun _=>Option α) none (fun l _ r _ _=>ih<|@Bool.rec (fun _=>Tr α) r l b) t) p
def Tr.mH(v:Option α)(p:List Bool):Tr α->Tr α:=
 @List.rec Bool (fun _=>Tr α->Tr α) (fun t=> @Tr.rec α (fun _=>Tr α) (.node .nil v .nil) (fun l _ r _ _=>.node l v r) t)
  (fun b _ ih t=> @Tr.rec α (fun _=>Tr α)
   (@Bool.rec (fun _=>Tr α) (.node .nil none<|ih .nil) (.node (ih .nil) none .nil) b)
   (fun l x r _ _=> @Bool.rec (fun _=>Tr α) (.node l x<|ih r) (.node (ih l) x r) b) t) p
theorem Tr.JF(p:List Bool):(Tr.nil:Tr α).wm p=none:=by cases p<;>rfl
theorem Tr.Jx(l r:Tr α)(v:Option α):(Tr.node l v r).wm []=v:=rfl
theorem Tr.Jy(l r:Tr α)(v:Option α)(b:Bool)(p:List Bool):(Tr.node l v r).wm (b::p)=if b=true then l.wm p else r.wm p:=by cases b<;>rfl
theorem Tr.Gn(l r:Tr α)(x v:Option α)(b:Bool)(p:List Bool):Tr.mH v (b::p) (Tr.node l x r)=if b=true then .node (Tr.mH v p l) x r else .node l x (Tr.mH v p r):=by cases b<;>rfl
theorem Tr.OA(v:Option α)(b:Bool)(p:List Bool):Tr.mH v (b::p) (Tr.nil:Tr α)=if b=true then .node (Tr.mH v p .nil) none .nil else .node .nil none (Tr.mH v p .nil):=by cases b<;>rfl
theorem Tr.NN(v:Option α):∀(p q:List Bool) (t:Tr α),(Tr.mH v p t).wm q=if q=p then v else t.wm q
 |[],q,t=>by
  cases t with
  |nil=>
   show(Tr.node .nil v .nil).wm q=_;cases q with
   |nil=>simp[Tr.Jx]
   |cons b q=>simp[Tr.Jy,Tr.JF]
  |node l x r=>
   show(Tr.node l v r).wm q=_;cases q with
   |nil=>simp[Tr.Jx]
   |cons b q=>simp[Tr.Jy]
 |a::p,q,t=>by
  cases t with
  |nil=>
   rw[Tr.OA];cases q with
   |nil=>cases a<;>simp[Tr.Jx,Tr.JF]
   |cons b q=>cases a<;>cases b<;>simp[Tr.Jy,Tr.JF,Tr.NN v p q]
  |node l x r=>
   rw[Tr.Gn];cases q with
   |nil=>cases a<;>simp[Tr.Jx]
   |cons b q=>cases a<;>cases b<;>simp[Tr.Jy,Tr.NN v p q]
def path(f:Nat):Nat->List Bool:= @Nat.rec (fun _=>Nat->List Bool) (fun _=>[]) (fun _ ih n=> @Bool.rec (fun _=>List Bool) (List.cons (Nat.beq (Nat.mod n 2) 1)<|ih<|Nat.div (Nat.pred n) 2) []<|Nat.beq n 0) f
theorem OB(a b:α)(c:Bool): @Bool.rec (fun _=>α) a b c=if c=true then b else a:=by cases c<;>rfl
theorem beq_eq(n m:Nat):(Nat.beq n m=true)=(n=m):=by rw[Nat.beq_eq]
theorem Jz(f n:Nat):path (f+1) n=if n=0 then[] else(Nat.beq (n % 2) 1)::path f ((n - 1) / 2):=by show @Bool.rec (fun _=>List Bool) (List.cons (Nat.beq (n % 2) 1)<|path f<|(n - 1) / 2) [] (Nat.beq n 0)=_;simp only[OB,beq_eq]
theorem UK:∀(f n m:Nat),n+1<=2 ^ f->m+1<=2 ^ f->path f n=path f m->n=m
 |0,n,m,hn,hm,_=>by simp at hn hm;omega
 |f+1,n,m,hn,hm,h=>by
  rw[Jz,Jz] at h;have hp:2 ^ (f+1)=2*2 ^ f:=by rw[Nat.pow_succ];omega
  by_cases h0:n=0
  ·by_cases h1:m=0
   ·omega
   ·rw[if_pos h0,if_neg h1] at h;cases h
  ·by_cases h1:m=0
   ·rw[if_neg h0,if_pos h1] at h;cases h
   ·rw[if_neg h0,if_neg h1] at h;injection h with ha hb
    have:=UK f _ _ (by omega) (by omega) hb;have hq:(n % 2=1)=(m % 2=1):=by rw[←beq_eq, ←beq_eq,ha]
    have dR:n % 2=1↔m % 2=1:=by rw[hq]
    omega
def top:Nat:=549755813888
def Tr.get(t:Tr α)(n:Nat):Option α:=Tr.wm (path 40 n) t
def Tr.put(t:Tr α)(n:Nat)(v:Option α):Tr α:=Tr.mH v (path 40 n) t
theorem Tr.get_nil(n:Nat):(Tr.nil:Tr α).get n=none:=Tr.JF _
theorem Tl:∀(f k n:Nat),n+1<2 ^ k->(path f n).length<k
 |0,k,n,h=>by
  have:k≠0:=by intro e;subst e;simp at h
  show 0<k;omega
 |f+1,k,n,h=>by
  rw[Jz];have hk:k≠0:=by intro e;subst e;simp at h
  by_cases h0:n=0
  ·rw[if_pos h0];show 0<k;omega
  ·rw[if_neg h0];obtain⟨j,rfl⟩:∃j,k=j+1:=⟨k - 1,by omega⟩;have hp:2 ^ (j+1)=2*2 ^ j:=by rw[Nat.pow_succ];omega
   have:=Tl f j ((n - 1) / 2) (by omega);simp only[List.length_cons];omega
theorem TV:∀(f k n:Nat),k<=f->2 ^ k<=n+1->k<=(path f n).length
 |_,0,_,_,_=>Nat.zero_le _
 |0,k+1,_,h,_=>by omega
 |f+1,k+1,n,h,hn=>by
  have hp:2 ^ (k+1)=2*2 ^ k:=by rw[Nat.pow_succ];omega
  have h1:1<=2 ^ k:=Nat.one_le_two_pow;rw[Jz,if_neg<|by omega];have:=TV f k ((n - 1) / 2) (by omega) (by omega);simp only[List.length_cons];omega
theorem VC{n m:Nat}(h:n<top)(e:m≠n):path 40 m≠path 40 n:=by
 unfold top at h;by_cases hm:m+1<=2 ^ 40
 ·exact fun k=>e<|UK 40 m n hm (by omega) k
 ·intro k;have h1:=TV 40 40 m (Nat.le_refl _) (by omega);have h2:=Tl 40 40 n (by omega);rw[k] at h1;omega
theorem Tr.lV(t:Tr α)(n m:Nat)(v:Option α)(h:n<top):(t.put n v).get m=if m=n then v else t.get m:=by
 unfold Tr.get Tr.put;rw[Tr.NN];by_cases e:m=n
 ·subst e;simp
 ·simp[e,VC h e]
theorem Tr.dt(t:Tr α)(n m:Nat)(v:Option α)(h:n<top)(_:m<top):(t.put n v).get m=if m=n then v else t.get m:=Tr.lV t n m v h
def Tr.fill(l:List α):Nat->Tr α->Tr α:= @List.rec α (fun _=>Nat->Tr α->Tr α) (fun _ t=>t) (fun x _ ih i t=>ih (Nat.succ i)<|t.put i<|some x) l
theorem Tr.OC:∀(l:List α) (i:Nat) (t:Tr α) (m:Nat),i+l.length<=top->m<top->
 (Tr.fill l i t).get m=if i<=m/\m<i+l.length then l[m - i]? else t.get m
 |[],i,t,m,_,_=>by show t.get m=_;simp;intro h1 h2;omega
 |x::l,i,t,m,h,hm=>by
  simp only[List.length_cons] at h;show(Tr.fill l (i+1)<|t.put i<|some x).get m=_;rw[Tr.OC l _ _ _ (by omega) hm,Tr.dt _ _ _ _ (by omega) hm];simp only[List.length_cons];by_cases h1:i+1<=m/\m<i+1+l.length
  ·have h2:i<=m/\m<i+(l.length+1):=by omega
   rw[if_pos h1,if_pos h2];obtain⟨k,rfl⟩:∃k,m=i+1+k:=⟨m - (i+1),by omega⟩;rw[show i+1+k - (i+1)=k from by omega,show i+1+k - i=k+1 from by omega];simp
  ·rw[if_neg h1];by_cases e:m=i
   ·subst e;simp
   ·have h2:¬(i<=m/\m<i+(l.length+1)):=by omega
    rw[if_neg e,if_neg h2]
theorem Tr.xy:∀(l:List α) (i:Nat) (t:Tr α) (m:Nat),i+l.length<=top->
 (Tr.fill l i t).get m=if i<=m/\m<i+l.length then l[m - i]? else t.get m
 |[],i,t,m,_=>by show t.get m=_;simp;intro h1 h2;omega
 |x::l,i,t,m,h=>by
  simp only[List.length_cons] at h;show(Tr.fill l (i+1)<|t.put i<|some x).get m=_;rw[Tr.xy l _ _ _ (by omega),Tr.lV _ _ _ _<|by omega];simp only[List.length_cons];by_cases h1:i+1<=m/\m<i+1+l.length
  ·have h2:i<=m/\m<i+(l.length+1):=by omega
   rw[if_pos h1,if_pos h2];obtain⟨k,rfl⟩:∃k,m=i+1+k:=⟨m - (i+1),by omega⟩;rw[show i+1+k - (i+1)=k from by omega,show i+1+k - i=k+1 from by omega];simp
  ·rw[if_neg h1];by_cases e:m=i
   ·subst e;simp
   ·have h2:¬(i<=m/\m<i+(l.length+1)):=by omega
    rw[if_neg e,if_neg h2]
end
theorem ak(h:P:=by omega):P:=h
theorem fV(h:P:=by simp[Op.operands]):P:=h
theorem iH(h:P:=by decide):P:=h
theorem jI(h:P:=by simp):P:=h
theorem FJ(h:P:=by rw[←ag.nx];exact h1):P:=h
theorem wK(h:P:=by simp;omega):P:=h
theorem FK(h:P:=by rw[←hg];exact h2):P:=h
end Go.Rn
namespace Go.Rn
variable {l:List Item} {it:Item}
def loose(b:Array Nat)(i j:Nat):Bool:= !((b.getD i 0).testBit j||(b.getD j 0).testBit i)
def JZ(ops:Array Oper):Prop:=∀(j:Nat) (o:Oper) (e:Edge),ops[j]? =some o->e∈o.after->Region.binds .any e=true->e.on<j
def aeE(ops:Array Oper):Prop:=∀(i j:Nat) (x y:Oper) (d:Tmp),i≠j->ops[i]? =some x->ops[j]? =some y->x.dst=some d->(d∈y.looksAt ops\/y.dst=some d)->loose (Region.before ops) i j=false
structure Li (ops:Array Oper):Prop where
 Xq:JZ ops
 EF:aeE ops
def iD:Code->Prop
 | .seq a b=>iD a/\iD b
 | .cond _ a b=>iD a/\iD b
 | .block _ b=>iD b
 | .loop b=>iD b
 | .scope b=>iD b
 | .region _ ops draw=>draw=true->Li ops
 | .rangeFunc _ _ a b=>iD a/\iD b
 |_=>True
def Kq:Item->Prop
 | .code c=>iD c
 | .inLoop b=>iD b
 | .inScope b=>iD b
 |_=>True
def jz(l:List Item):Prop:=∀it∈l,Kq it
structure G8 (bS:Option Code) (assign body:Code):Prop where
 bS:∀c,bS=some c->iD c
 assign:iD assign
 body:iD body
theorem jz.cons(h:Kq it)(k:jz l):jz<|it::l:=by
 intro x hx;rcases List.mem_cons.1 hx with rfl|hx
 ·exact h
 ·exact k x hx
theorem jz.head(h:jz<|it::l):Kq it:=h it List.mem_cons_self
theorem jz.tail(h:jz<|it::l):jz l:=fun x hx=>h x<|List.mem_cons_of_mem _ hx
theorem jz.nil:jz []:=fun _ h=>by cases h
theorem NO{id:Nat}:∀{k k':List Item},exitTo id k=some k'->jz k->jz k'
  |[],_,h,_=>by simp[exitTo] at h
  | it::k,k',h,hk=>by
    cases it<;>simp only[exitTo] at h<;>first
      |exact NO h hk.tail
      | (split at h
         · injection h with h;subst h;exact hk.tail
         · exact NO h hk.tail)
theorem aaG{l:Nat}:∀{c r:Code},findLabel c l=some r->iD c->iD r:=by
 intro c;induction c with
 |seq a b CV CW=>
  intro r h hc;simp only[findLabel] at h;cases e:findLabel a l with
  |some q=>rw[e] at h;injection h with h;subst h;exact⟨CV e hc.1,hc.2⟩
  |none=>rw[e] at h;exact CW h hc.2
 |label l'=>
  intro r h _;simp only[findLabel] at h;split at h
  ·injection h with h;subst h;trivial
  ·cases h
 |_=>intro r h _;simp[findLabel] at h
theorem NP{l:Nat}:∀{k k':List Item},gotoIn l k=some k'->jz k->jz k'
 |[],_,h,_=>by simp[gotoIn] at h
 |it::k,k',h,hk=>by
  cases it<;>simp only[gotoIn] at h<;>first
   |exact NP h hk.tail
   |skip
  rename_i body;cases e:findLabel body l with
  |some q=>rw[e] at h;injection h with h;subst h;exact .cons (aaG e hk.head) hk
  |none=>rw[e] at h;exact NP h hk.tail
end Go.Rn
namespace Go.Rn
variable {n sh b nt:Nat} {w:World} {v:Value} {a:Array Value}
inductive cM where
 |known (c:Nat)
 |ar (lo e:Nat)
 |lost
 deriving Inhabited,DecidableEq
inductive AV where
 |bool (b:Bool)
 |int (k:IntKind) (n:Int)
 |str (s:ByteArray)
 |ptr (a:Option<|Nat×Nat)
 |slice (a:Option<|Nat×Nat) (len:Nat) (cap:cM)
 |ab (n o len:Nat)
 |p9 (n o:Nat)
 |map (r:Option Nat)
 |func (fn:Fn) (first captured:List AV)
 |yield (l:Nat)
 |nilFunc
 |iface (t:TypeId) (v:AV)
 |nilIface
 |agg (cells:List AV)
 |tuple (vs:List AV)
 |LI (n:Nat)
 deriving Inhabited
abbrev aw:=Nat->Option (Nat×Nat)
def aw.le(ρ σ:aw):Prop:=∀n x,ρ n=some x->σ n=some x
theorem aw.le_refl(ρ:aw):ρ.le ρ:=fun _ _ h=>h
theorem aw.le_trans{ρ σ τ:aw}(h:ρ.le σ)(k:σ.le τ):ρ.le τ:=fun n x e=>k n x<|h n x e
def VD:Fn->Bool
 | .yield _=>false
 |_=>true
def pr(a b:Nat):Nat:=2 ^ a*(2*b+1)
theorem fM:∀{a b c d:Nat},pr a b=pr c d->a=c/\b=d
 |0,b,0,d,h=>by unfold pr at h;omega
 |0,b,c+1,d,h=>by
  unfold pr at h;have e:2 ^ (c+1)*(2*d+1)=2*(2 ^ c*(2*d+1)):=by rw[Nat.pow_succ,Nat.mul_comm (2 ^ c) 2,Nat.mul_assoc]
  rw[e] at h;omega
 |a+1,b,0,d,h=>by
  unfold pr at h;have e:2 ^ (a+1)*(2*b+1)=2*(2 ^ a*(2*b+1)):=by rw[Nat.pow_succ,Nat.mul_comm (2 ^ a) 2,Nat.mul_assoc]
  rw[e] at h;omega
 |a+1,b,c+1,d,h=>by
  have e1:pr (a+1) b=2*pr a b:=by unfold pr;rw[Nat.pow_succ,Nat.mul_comm (2 ^ a) 2,Nat.mul_assoc]
  have e2:pr (c+1) d=2*pr c d:=by unfold pr;rw[Nat.pow_succ,Nat.mul_comm (2 ^ c) 2,Nat.mul_assoc]
  obtain⟨h1,h2⟩:=fM (a:=a) (b:=b) (c:=c) (d:=d) ak;exact⟨by omega,h2⟩
def hn(n b sh:Nat):Nat:=top+pr n (pr b sh)
theorem gg(n b sh:Nat):top<=hn n b sh:=Nat.le_add_right _ _
theorem Kr{n' b' Rm:Nat}(h:hn n b sh=hn n' b' Rm):n=n'/\b=b'/\sh=Rm:=by unfold hn at h;obtain⟨h1,h2⟩:=fM (show pr n (pr b sh)=pr n' (pr b' Rm) by omega);exact⟨h1,fM h2⟩
def qU(ρ:aw)(n b sh:Nat):Prop:=(¬top<=n/\ρ n=some (b,sh))\/(top<=n/\ρ (hn n b sh)≠none)
theorem qU.high{ρ:aw}(h:qU ρ n b sh)(ht:top<=n):ρ (hn n b sh)≠none:=h.elim (fun h=>absurd ht h.1) fun h=>h.2
theorem qU.low{ρ:aw}(h:qU ρ n b sh)(ht:¬top<=n):ρ n=some (b,sh):=h.elim (fun h=>h.2) fun h=>absurd h.1 ht
theorem qU.mono{ρ σ:aw}(h:ρ.le σ):qU ρ n b sh->qU σ n b sh
  | .inl ⟨a,b⟩=>.inl ⟨a,h _ _ b⟩
  | .inr ⟨a,b⟩=>.inr ⟨a,fun e=>b (by
    cases q:ρ (hn n _ sh) with
    |none=>rfl
    |some x=>rw[h _ _ q] at e;cases e)⟩
def zOk(n:Nat)(a:Option Addr)(c:Nat):Prop:=(a=none->c=0)/\(n=top->a=none)/\(n=top+1->a≠none)
mutual
def VR(ρ:aw):AV->Value->Prop
 | .bool b,v=>v= .bool b
 | .int k n,v=>v= .int k n
 | .str s,v=>v= .string s
 | .ptr none,v=>v= .pointer none
 | .ptr (some (n,o)),v=>∃b N,ρ n=some (b,N)/\v= .pointer (some ⟨b,o,none⟩)
 | .slice none len (.known c),v=>v= .slice none len c/\len=0/\c=0
 | .slice none _ (.ar _ _),_=>False
 | .slice none _ .lost,_=>False
 | .slice (some (n,_)) len .lost,v=>len=0/\∃b N o c,ρ n=some (b,N)/\v= .slice (some ⟨b,o,none⟩) 0 c
 | .slice (some (n,o)) len (.known c),v=>∃b N,ρ n=some (b,N)/\v= .slice (some ⟨b,o,none⟩) len c
 | .slice (some (n,o)) len (.ar lo e),v=>∃b N c,ρ n=some (b,N)/\v= .slice (some ⟨b,o,none⟩) len c/\lo<=c/\len<=c/\o+c*e<=N
 | .ab n o len,v=>(top<=n/\len=0/\∃a c,v= .slice a 0 c/\zOk n a c)\/∃b sh c,qU ρ n b sh/\v= .slice (some ⟨b,sh+o,none⟩) len c/\(top<=n->len<=c/\n≠top)
 | .p9 n o,v=>∃b sh,qU ρ n b sh/\v= .pointer (some ⟨b,sh+o,none⟩)
 | .map none,v=>v= .map none
 | .map (some n),v=>∃b N,ρ n=some (b,N)/\v= .map (some b)
 | .func fn first captured,v=>VD fn=true/\∃f c,v= .func fn f c/\az ρ first f.toList/\az ρ captured c.toList
 | .yield l,v=>∃b N,ρ l=some (b,N)/\v= .func (.yield b) #[] #[]
 | .nilFunc,v=>v= .nilFunc
 | .iface t x,v=>∃y,v= .iface t y/\VR ρ x y
 | .nilIface,v=>v= .nilIface
 | .agg l,v=>∃a,v= .agg a/\az ρ l a.toList
 | .tuple l,v=>∃a,v= .tuple a/\az ρ l a.toList
 | .LI n,v=>v= .string ⟨(List.replicate n (0:UInt8)).toArray⟩
def az(ρ:aw):List AV->List Value->Prop
 |[],l=>l=[]
 |x::xs,l=>∃y ys,l=y::ys/\VR ρ x y/\az ρ xs ys
end
mutual
theorem VR.mono{ρ σ:aw}(h:ρ.le σ):∀(x:AV) (v:Value),VR ρ x v->VR σ x v
 | .bool _,_,k=>by simpa only[VR] using k
 | .int _ _,_,k=>by simpa only[VR] using k
 | .str _,_,k=>by simpa only[VR] using k
 | .LI _,_,k=>by simpa only[VR] using k
 | .ptr none,_,k=>by simpa only[VR] using k
 | .ptr (some (n,o)),_,k=>by simp only[VR] at k ⊢;obtain⟨b,N,e,r⟩:=k;exact⟨b,N,h _ _ e,r⟩
 | .slice none len (.known c),_,k=>by simpa only[VR] using k
 | .slice none _ (.ar _ _),_,k=>by simp only[VR] at k
 | .slice none _ .lost,_,k=>by simp only[VR] at k
 | .slice (some (n,o)) len .lost,_,k=>by simp only[VR] at k ⊢;obtain⟨l,b,N,p,c,e,r⟩:=k;exact⟨l,b,N,p,c,h _ _ e,r⟩
 | .slice (some (n,o)) len (.known c),_,k=>by simp only[VR] at k ⊢;obtain⟨b,N,e,r⟩:=k;exact⟨b,N,h _ _ e,r⟩
 | .slice (some (n,o)) len (.ar lo e),_,k=>by simp only[VR] at k ⊢;obtain⟨b,N,c,e,r⟩:=k;exact⟨b,N,c,h _ _ e,r⟩
 | .ab n o len,_,k=>by simp only[VR] at k ⊢;rcases k with k|⟨b,sh,c,e,r⟩;exact .inl k;exact .inr ⟨b,sh,c,e.mono h,r⟩
 | .p9 n o,_,k=>by simp only[VR] at k ⊢;obtain⟨b,sh,e,r⟩:=k;exact⟨b,sh,e.mono h,r⟩
 | .map none,_,k=>by simpa only[VR] using k
 | .map (some n),_,k=>by simp only[VR] at k ⊢;obtain⟨b,N,e,r⟩:=k;exact⟨b,N,h _ _ e,r⟩
 | .func fn first captured,_,k=>by simp only[VR] at k ⊢;obtain⟨p,f,c,e,r,s⟩:=k;exact⟨p,f,c,e,az.mono h _ _ r,az.mono h _ _ s⟩
 | .yield l,_,k=>by simp only[VR] at k ⊢;obtain⟨b,N,e,r⟩:=k;exact⟨b,N,h _ _ e,r⟩
 | .nilFunc,_,k=>by simpa only[VR] using k
 | .iface t x,_,k=>by simp only[VR] at k ⊢;obtain⟨y,e,r⟩:=k;exact⟨y,e,VR.mono h _ _ r⟩
 | .nilIface,_,k=>by simpa only[VR] using k
 | .agg l,_,k=>by simp only[VR] at k ⊢;obtain⟨a,e,r⟩:=k;exact⟨a,e,az.mono h _ _ r⟩
 | .tuple l,_,k=>by simp only[VR] at k ⊢;obtain⟨a,e,r⟩:=k;exact⟨a,e,az.mono h _ _ r⟩
theorem az.mono{ρ σ:aw}(h:ρ.le σ):∀(x:List AV) (v:List Value),az ρ x v->az σ x v
 |[],_,k=>by simpa only[az] using k
 |x::xs,_,k=>by simp only[az] at k ⊢;obtain⟨y,ys,e,r,s⟩:=k;exact⟨y,ys,e,VR.mono h _ _ r,az.mono h _ _ s⟩
end
theorem az.length{ρ:aw}:∀{x:List AV} {v:List Value},az ρ x v->x.length=v.length
 |[],_,k=>by simp only[az] at k;subst k;rfl
 |x::xs,_,k=>by simp only[az] at k;obtain⟨y,ys,rfl,_,s⟩:=k;simp[az.length s]
theorem az.get{ρ:aw}:∀{x:List AV} {v:List Value},az ρ x v->∀(i:Nat) (a:AV),x[i]? =some a->∃b,v[i]? =some b/\VR ρ a b
 |[],_,_,_,_,h=>by simp at h
 |x::xs,_,k,i,a,h=>by
  simp only[az] at k;obtain⟨y,ys,rfl,r,s⟩:=k;cases i with
  |zero=>simp at h;subst h;exact⟨y,rfl,r⟩
  |succ i=>simp at h;obtain⟨b,hb,hr⟩:=az.get s i a h;exact⟨b,by simpa using hb,hr⟩
theorem az.append{ρ:aw}:∀{x:List AV} {v:List Value} {x':List AV} {v':List Value},az ρ x v->az ρ x' v'->az ρ (x++x') (v++v')
 |[],_,_,_,k,h=>by simp only[az] at k;subst k;simpa using h
 |x::xs,_,_,_,k,h=>by simp only[az] at k;obtain⟨y,ys,rfl,r,s⟩:=k;simp only[List.cons_append,az];exact⟨y,_,rfl,r,az.append s h⟩
theorem az.WI{ρ:aw}:∀(x:List AV) (v:List Value),x.length=v.length->(∀(i:Nat) (a:AV) (b:Value),x[i]? =some a->v[i]? =some b->VR ρ a b)->az ρ x v
 |[],[],_,_=>by simp only[az]
 |[],_::_,h,_=>by simp at h
 |_::_,[],h,_=>by simp at h
 |x::xs,y::ys,h,k=>by simp only[az];exact⟨y,ys,rfl,k 0 x y rfl rfl,az.WI xs ys (by simpa using h) fun i a b ha hb=>k (i+1) a b (by simpa using ha)<|by simpa using hb⟩
theorem az.take{ρ:aw}:∀(n:Nat) {x:List AV} {v:List Value},az ρ x v->az ρ (x.take n) (v.take n)
 |0,_,_,_=>by simp[az]
 |n+1,[],_,k=>by simp only[az] at k;subst k;simp[az]
 |n+1,x::xs,_,k=>by simp only[az] at k;obtain⟨y,ys,rfl,r,s⟩:=k;simp only[List.take_succ_cons,az];exact⟨y,_,rfl,r,az.take n s⟩
theorem az.drop{ρ:aw}:∀(n:Nat) {x:List AV} {v:List Value},az ρ x v->az ρ (x.drop n) (v.drop n)
 |0,_,_,k=>by simpa using k
 |n+1,[],_,k=>by simp only[az] at k;subst k;simp[az]
 |n+1,x::xs,_,k=>by simp only[az] at k;obtain⟨y,ys,rfl,r,s⟩:=k;simpa using az.drop n s
def nj:AV:=.tuple []
theorem VR.undef(ρ:aw):VR ρ nj Go.undef:=by simp only[nj,Go.undef,VR,az];exact⟨#[],rfl,rfl⟩
def AV.cells:AV->List AV
 | .agg l=>l
 |v=>[v]
theorem VR.cells{ρ:aw}{x:AV}(h:VR ρ x v):az ρ x.cells v.cells.toList:=by
 cases x<;>(try (simp only[VR] at h;subst h;simp only[AV.cells,Value.cells,az,VR];exact⟨_,_,rfl,rfl,rfl⟩))
 case ptr a=>
  cases a with
  |none=>simp only[VR] at h;subst h;simp only[AV.cells,Value.cells,az,VR];exact⟨_,_,rfl,rfl,rfl⟩
  |some a=>obtain⟨n,o⟩:=a;have h':=h;simp only[VR] at h';obtain⟨b,N,_,rfl⟩:=h';simp only[AV.cells,Value.cells,az];exact⟨_,_,rfl,h,rfl⟩
 case slice a len cap=>
  have:∃p q r,v= .slice p q r:=by
   cases a with
   |none=>cases cap<;>simp only[VR] at h;exact⟨_,_,_,h.1⟩
   |some a=>
    obtain⟨n,o⟩:=a;cases cap<;>simp only[VR] at h
    ·obtain⟨b,N,_,rfl⟩:=h;exact⟨_,_,_,rfl⟩
    ·obtain⟨b,N,c,_,rfl,_⟩:=h;exact⟨_,_,_,rfl⟩
    ·obtain⟨_,b,N,p,c,_,rfl⟩:=h;exact⟨_,_,_,rfl⟩
  obtain⟨p,q,r,rfl⟩:=this;simp only[AV.cells,Value.cells,az];exact⟨_,_,rfl,h,rfl⟩
 case ab n o len=>
  have h':=h;simp only[VR] at h';rcases h' with⟨_,_,_,_,rfl,_⟩|⟨b,sh,c,_,rfl,_⟩<;>
  (simp only[AV.cells,Value.cells,az];exact⟨_,_,rfl,h,rfl⟩)
 case p9 n o=>have h':=h;simp only[VR] at h';obtain⟨b,sh,_,rfl⟩:=h';simp only[AV.cells,Value.cells,az];exact⟨_,_,rfl,h,rfl⟩
 case map a=>
  cases a with
  |none=>simp only[VR] at h;subst h;simp only[AV.cells,Value.cells,az,VR];exact⟨_,_,rfl,rfl,rfl⟩
  |some a=>have h':=h;simp only[VR] at h';obtain⟨b,N,_,rfl⟩:=h';simp only[AV.cells,Value.cells,az];exact⟨_,_,rfl,h,rfl⟩
 case func fn f c=>have h':=h;simp only[VR] at h';obtain⟨_,_,_,rfl,_⟩:=h';simp only[AV.cells,Value.cells,az];exact⟨_,_,rfl,h,rfl⟩
 case yield l=>have h':=h;simp only[VR] at h';obtain⟨_,_,_,rfl⟩:=h';simp only[AV.cells,Value.cells,az];exact⟨_,_,rfl,h,rfl⟩
 case iface t x=>have h':=h;simp only[VR] at h';obtain⟨_,rfl,_⟩:=h';simp only[AV.cells,Value.cells,az];exact⟨_,_,rfl,h,rfl⟩
 case agg l=>simp only[VR] at h;obtain⟨a,rfl,k⟩:=h;simpa only[AV.cells,Value.cells] using k
 case tuple l=>have h':=h;simp only[VR] at h';obtain⟨_,rfl,_⟩:=h';simp only[AV.cells,Value.cells,az];exact⟨_,_,rfl,h,rfl⟩
def AV.cj:AV->Bool
 | .agg _| .tuple _=>false
 |_=>true
theorem VR.cj{ρ:aw}{x:AV}(h:VR ρ x v)(hx:x.cj=true):∀cs,v≠ .agg cs/\v≠ .tuple cs:=by
 intro cs;cases x<;>(try (simp only[VR] at h;subst h;simp;done))<;>(try (simp[AV.cj] at hx;done))
 case ptr a=>
  cases a with
  |none=>simp only[VR] at h;subst h;simp
  |some a=>obtain⟨n,o⟩:=a;simp only[VR] at h;obtain⟨_,_,_,rfl⟩:=h;simp
 case slice a len cap=>
  cases a with
  |none=>cases cap<;>simp only[VR] at h;rw[h.1];simp
  |some a=>
   obtain⟨n,o⟩:=a;cases cap<;>simp only[VR] at h
   ·obtain⟨_,_,_,rfl⟩:=h;simp
   ·obtain⟨_,_,_,_,rfl,_⟩:=h;simp
   ·obtain⟨_,_,_,_,_,_,rfl⟩:=h;simp
 case ab n o len=>simp only[VR] at h;rcases h with⟨_,_,_,_,rfl,_⟩|⟨_,_,_,_,rfl,_⟩<;>simp
 case p9 n o=>simp only[VR] at h;obtain⟨_,_,_,rfl⟩:=h;simp
 case map a=>
  cases a with
  |none=>simp only[VR] at h;subst h;simp
  |some a=>simp only[VR] at h;obtain⟨_,_,_,rfl⟩:=h;simp
 case func fn f c=>simp only[VR] at h;obtain⟨_,_,_,rfl,_⟩:=h;simp
 case yield l=>simp only[VR] at h;obtain⟨_,_,_,rfl⟩:=h;simp
 case iface t x=>simp only[VR] at h;obtain⟨_,rfl,_⟩:=h;simp
inductive ae where
 |cells (n:Nat) (t:Tr AV) (z:List AV)
 |map (es:List<|AV×AV) (bj:Nat)
 |lF (es:List<|AV×AV)
 |loop (st:LoopState) (bS:Option Code) (fn:FuncId) (tmps:Tr AV) (nt:Nat) (params:List Tmp) (assign body:Code) (defers:Nat)
 |defs
 |ro (n:Nat) (t:Tr AV)
 |uj (n:Nat) (t:Tr AV)
 |GW (s:ByteArray) (pos:Nat)
 |iter (m:Nat) (es:List<|AV×AV) (exact:Bool) (left:List<|AV×AV) (cur:Option<|AV×AV)
 |jP
 |tok (k:Nat) (v:AV)
 deriving Inhabited
noncomputable def cellAt(t:Tr AV)(z:List AV)(i:Nat):Option AV:=
 match t.get i with
 |some v=>some v
 |none=>z[i % z.length]?
def ae.du:ae->Bool
 | .ro _ _=>true
 | .uj _ _=>true
 | .tok _ _=>true
 |_=>false
def ae.mW:ae->Bool
 | .ro _ _=>true
 | .uj _ _=>true
 |_=>false
theorem ae.ke:∀{o:ae},o.mW=true->o.du=true
 | .ro _ _,_=>rfl
 | .uj _ _,_=>rfl
 | .cells _ _ _,h=>by cases h
 | .map _ _,h=>by cases h
 | .lF _,h=>by cases h
 | .loop _ _ _ _ _ _ _ _ _,h=>by cases h
 | .defs,h=>by cases h
 | .GW _ _,h=>by cases h
 | .iter _ _ _ _ _,h=>by cases h
 | .jP,h=>by cases h
 | .tok _ _,h=>by cases h
def TR(ρ:aw)(nt:Nat)(t:Tr AV)(a:Array Value):Prop:=a.size=nt/\∀i x,t.get i=some x->VR ρ x (a.getD i Go.undef)
theorem TR.mono{ρ σ:aw}(h:ρ.le σ){t:Tr AV}(k:TR ρ nt t a):TR σ nt t a:=⟨k.1,fun i x e=>VR.mono h _ _<|k.2 i x e⟩
theorem TR.set{ρ:aw}{t:Tr AV}(k:TR ρ nt t a){d:Nat}{x:AV}(hd:d<nt)(ht:nt<=top)(h:VR ρ x v):
 TR ρ nt (t.put d<|some x) (a.setIfInBounds d v):=by
 refine⟨by simp[k.1],fun i y hy=>?_⟩;rw[Tr.lV _ _ _ _ ak] at hy;by_cases e:i=d
 ·subst e;have:(a.setIfInBounds i v).getD i Go.undef=v:=by rw[Array.getD_eq_getD_getElem?,Array.getElem?_setIfInBounds_self_of_lt (by rw[k.1];exact hd)];rfl
  rw[if_pos rfl] at hy;injection hy with hy;subst hy
  rw[this];exact h
 ·have:(a.setIfInBounds d v).getD i Go.undef=a.getD i Go.undef:=by rw[Array.getD_eq_getD_getElem?,Array.getElem?_setIfInBounds_ne ak, ←Array.getD_eq_getD_getElem?]
  rw[if_neg e] at hy;rw[this];exact k.2 i y hy
def jX(ρ:aw):List (AV×AV)->List MapEntry->Nat->Prop
 |[],l,_=>l=[]
 |x::xs,l,i=>∃e es,l=e::es/\VR ρ x.1 e.key/\VR ρ x.2 e.val/\e.born=i/\jX ρ xs es (i+1)
theorem jX.mono{ρ σ:aw}(h:ρ.le σ):∀(x:List<|AV×AV) (l:List MapEntry) (i:Nat),jX ρ x l i->jX σ x l i
 |[],_,_,k=>k
 |x::xs,_,i,k=>by obtain⟨e,es,r,a,b,c,d⟩:=k;exact⟨e,es,r,VR.mono h _ _ a,VR.mono h _ _ b,c,jX.mono h xs es _ d⟩
def dW(ρ:aw):List (AV×AV)->List MapEntry->Prop
 |[],l=>l=[]
 |x::xs,l=>∃e es,l=e::es/\VR ρ x.1 e.key/\VR ρ x.2 e.val/\dW ρ xs es
theorem dW.mono{ρ σ:aw}(h:ρ.le σ):∀(x:List<|AV×AV) (l:List MapEntry),dW ρ x l->dW σ x l
 |[],_,k=>k
 |x::xs,_,k=>by obtain⟨e,es,r,a,b,d⟩:=k;exact⟨e,es,r,VR.mono h _ _ a,VR.mono h _ _ b,dW.mono h xs es d⟩
theorem jX.eqs{ρ:aw}:∀{x:List<|AV×AV} {l:List MapEntry} {i:Nat},jX ρ x l i->dW ρ x l
 |[],_,_,k=>k
 |_::_,_,_,k=>by obtain⟨e,es,r,a,b,_,d⟩:=k;exact⟨e,es,r,a,b,d.eqs⟩
def wL(ρ:aw)(es:List<|AV×AV)(l:List MapEntry):Prop:=∃l',l.Perm l'/\dW ρ es l'
theorem wL.mono{ρ σ:aw}(h:ρ.le σ){x:List<|AV×AV}{l:List MapEntry}(k:wL ρ x l):wL σ x l:=by obtain⟨l',p,n⟩:=k;exact⟨l',p,n.mono h⟩
def sameKey:AV->AV->Option Bool
 | .int k a,.int k' b=>match decide (k=k') with
  |true=>some<|a == b
  |false=>none
 | .str a,.str b=>some<|a == b
 | .bool a,.bool b=>some<|a == b
 |_,_=>none
def lE(es:List<|AV×AV):Prop:=es.Pairwise fun a b=>sameKey a.1 b.1=some false/\sameKey b.1 a.1=some false
def tT(l:List MapEntry)(bj:Nat):Prop:=(l.map (·.born)).Nodup/\∀e∈l,e.born<bj
def OR(ρ:aw)(N:Nat):ae->Obj->Prop
 | .cells n t z,o=>∃c e,o= .cells c e (0,0)/\c.size=N/\n<=N/\∀i,i<n->∃x v,cellAt t z i=some x/\x.cj=true/\c[i]? =some v/\VR ρ x v
 | .map es bj,o=>∃l,o= .map l bj/\bj=es.length/\jX ρ es l.toList 0
 | .lF es,o=>∃l bj,o= .map l bj/\lE es/\tT l.toList bj/\wL ρ es l.toList
 | .loop st bS fn tmps nt params assign body defers,o=>∃a b M,o= .loop {state:=st,pending:=bS,fn,tmps:=a,params:=params.toArray,assign,body,defers:=b}/\TR ρ nt tmps a/\nt<=top/\ρ defers=some (b,M)/\G8 bS assign body
 | .defs,o=>o= .deferred (some [])
 | .ro n t,o=>∃c e fr,o= .cells c e fr/\c.size=N/\n=N/\∀i,i<n->∃x v,t.get i=some x/\x.cj=true/\c[i]? =some v/\VR ρ x v
 | .uj n t,o=>∃c e fr,o= .cells c e fr/\∀i,i<n->∃x v,t.get i=some x/\x.cj=true/\c[N+i]? =some v/\VR ρ x v
 | .GW s pos,o=>o= .stringIter s pos
 | .iter m _ _ _ _,o=>∃b M c s,ρ m=some (b,M)/\o= .mapIter (some b) c s c
 | .jP,o=>∃l bj,o= .map l bj
 | .tok _ _,_=>True
theorem OR.mono{ρ σ:aw}(h:ρ.le σ){N:Nat}{x:ae}{o:Obj}(k:OR ρ N x o):OR σ N x o:=by
 cases x<;>simp only[OR] at k ⊢
 case cells n t z=>obtain⟨c,e,r,s,u,f⟩:=k;exact⟨c,e,r,s,u,fun i hi=>let ⟨x,v,a,b,d,q⟩:=f i hi;⟨x,v,a,b,d,VR.mono h _ _ q⟩⟩
 case map es bj=>obtain⟨l,r,c,s⟩:=k;exact⟨l,r,c,jX.mono h _ _ _ s⟩
 case lF es=>obtain⟨l,c,r,a,b,s⟩:=k;exact⟨l,c,r,a,b,s.mono h⟩
 case loop st bS fn tmps nt params assign body defers=>obtain⟨a,b,M,r,s,q,u,v⟩:=k;exact⟨a,b,M,r,s.mono h,q,h _ _ u,v⟩
 case defs=>exact k
 case ro n t=>obtain⟨c,e,q,r,s,u,f⟩:=k;exact⟨c,e,q,r,s,u,fun i hi=>let ⟨x,v,a,b,d,q⟩:=f i hi;⟨x,v,a,b,d,VR.mono h _ _ q⟩⟩
 case uj n t=>obtain⟨c,e,q,r,f⟩:=k;exact⟨c,e,q,r,fun i hi=>let ⟨x,v,a,b,d,q⟩:=f i hi;⟨x,v,a,b,d,VR.mono h _ _ q⟩⟩
 case GW s pos=>exact k
 case iter m es ex left cur=>obtain⟨b,M,c,s,r,q⟩:=k;exact⟨b,M,c,s,h _ _ r,q⟩
 case jP=>exact k
def np(ρ:aw)(w:World)(n m:Nat)(es:List<|AV×AV)(exact:Bool)(left:List<|AV×AV)(cur:Option<|AV×AV):Prop:=
 ∃b N bm M l bj seen,ρ n=some (b,N)/\ρ m=some (bm,M)/\w.heap[b]? =some (.mapIter (some bm) bj seen bj)/\w.heap[bm]? =some (.map l bj)/\
  tT l.toList bj/\(exact=true->bj=es.length/\jX ρ es l.toList 0)/\(exact=false->lE es/\wL ρ es l.toList)/\
  wL ρ left (l.toList.filter fun e=> !seen.contains e.born)/\
  (match cur with
  |none=>seen= #[]
  |some x=>∃e,e∈l.toList/\seen.back?=some e.born/\VR ρ x.1 e.key/\VR ρ x.2 e.val)
theorem np.mono{ρ σ:aw}(h:ρ.le σ){m:Nat}{es:List<|AV×AV}{ex:Bool}{left:List<|AV×AV}{cur:Option<|AV×AV}(k:np ρ w n m es ex left cur):np σ w n m es ex left cur:=by
 obtain⟨b,N,bm,M,l,bj,seen,h1,h2,h3,h4,h5,h6,h7,h8,h9⟩:=k;refine⟨b,N,bm,M,l,bj,seen,h _ _ h1,h _ _ h2,h3,h4,h5,fun e=>⟨(h6 e).1,(h6 e).2.mono h⟩,fun e=>⟨(h7 e).1,(h7 e).2.mono h⟩,h8.mono h,?_⟩;cases cur with
 |none=>exact h9
 |some x=>obtain⟨e,a,b,c,d⟩:=h9;exact⟨e,a,b,VR.mono h _ _ c,VR.mono h _ _ d⟩
structure aJ where
 may:Nat->Prop
 F:Nat->Option (List AV)
 dG:Nat->Prop
 inv:Nat->AV->aw->World->Nat->(Nat->Prop)->Prop
 dU:Nat
 mono:∀{k v ρ σ w w' b H},inv k v ρ w b H->(∀m x,top<=m->ρ m=some x->σ m=some x)->(∀x,H x->w'.heap[x]? =w.heap[x]?)->inv k v σ w' b H
def ago(W:World):aJ:=⟨fun k=>W.heap.size<=k,fun _=>none,fun _=>True,fun _ _ _ _ _ _=>False,W.heap.size,fun h _ _=>h⟩
def jY(ρ:aw)(h:Tr ae)(b:Nat):Prop:=∀m o N,m<top->h.get m=some o->o.du=false->ρ m≠some (b,N)
def gq(ρ:aw):aw:=fun k=>if top<=k then ρ k else none
theorem G9(ρ:aw):(gq ρ).le ρ:=by
 intro k x e;unfold gq at e;split at e
 ·exact e
 ·cases e
theorem GH{ρ σ:aw}(h:ρ.le σ):(gq ρ).le<|gq σ:=by
 intro k x e;unfold gq at e ⊢;split at e
 ·rename_i q;rw[if_pos q];exact h _ _ e
 ·cases e
def Fz(B:aJ)(ρ:aw)(h:Tr ae)(w:World):Prop:=∀n b sh,ρ (hn n b sh)≠none->(B.dG (hn n b sh)\/B.may b)/\∃l c e fr,B.F n=some l/\w.heap[b]? =some (.cells c e fr)/\jY ρ h b/\∀i x,l[i]? =some x->∃v,c[sh+i]? =some v/\VR (gq ρ) x v/\x.cj=true
def uO(B:aJ)(ρ:aw)(h:Tr ae)(w:World):Prop:=(B.dU<=w.heap.size/\∀m o,m<top->h.get m=some o->o.mW=true->∃b N,ρ m=some (b,N)/\b<B.dU)/\∃H:Nat->Nat->Prop,(∀n k v,n<top->h.get n=some (.tok k v)->∃b N,ρ n=some (b,N)/\B.inv k v ρ w b (H n)/\H n b/\∀x,H n x->(x<w.heap.size/\B.dU<=x)/\B.may x/\jY ρ h x/\∀j sh,ρ (hn j x sh)=none)/\∀n m x k v k' v',n<top->m<top->h.get n=some (.tok k v)->h.get m=some (.tok k' v')->n≠m->H n x->¬H m x
theorem uO.of{B:aJ}{ρ σ:aw}{h h':Tr ae}{w':World}(f:uO B ρ h w)(hl:ρ.le σ)(ht:∀n o,n<top->h'.get n=some o->o.du=true->h.get n=some o)(hs:w.heap.size<=w'.heap.size)(hw:∀b,b<w.heap.size->jY ρ h b->w'.heap[b]? =w.heap[b]?)(hd:∀b,b<w.heap.size->jY ρ h b->jY σ h' b)(hm:∀j x sh,x<w.heap.size->jY ρ h x->ρ (hn j x sh)=none->σ (hn j x sh)=none):uO B σ h' w':=by
 obtain⟨h0,H,h1,h2⟩:=f;refine⟨⟨Nat.le_trans h0.1 hs,fun m o eD hg hf=>?_⟩,H,fun n k v hn hg=>?_,fun n m x k v k' v' hn eD g1 g2=>h2 n m x k v k' v' hn eD (ht _ _ hn g1 rfl)<|ht _ _ eD g2 rfl⟩
 ·obtain⟨b,N,e1,e2⟩:=h0.2 m o eD (ht _ _ eD hg<|ae.ke hf) hf;exact⟨b,N,hl _ _ e1,e2⟩
 obtain⟨b,N,a1,a2,a3,a4⟩:=h1 n k v hn<|ht _ _ hn hg rfl;refine⟨b,N,hl _ _ a1,B.mono a2 (fun m x _ e=>hl _ _ e) fun x hx=>?_,a3,fun x hx=>?_⟩
 ·obtain⟨⟨c1,_⟩,_,c3,_⟩:=a4 x hx;exact hw x c1 c3
 ·obtain⟨⟨c1,cl⟩,c2,c3,c4⟩:=a4 x hx;exact⟨⟨Nat.lt_of_lt_of_le c1 hs,cl⟩,c2,hd x c1 c3,fun j sh=>hm j x sh c1 c3<|c4 j sh⟩
theorem uO.no{B:aJ}{ρ:aw}{h:Tr ae}(hn:∀n k v,n<top->h.get n=some (.tok k v)->False)(hl:B.dU<=w.heap.size/\∀m o,m<top->h.get m=some o->o.mW=true->∃b N,ρ m=some (b,N)/\b<B.dU):uO B ρ h w:=⟨hl,fun _ _=>False,fun n k v ht hg=>(hn n k v ht hg).elim,fun n _ _ k v _ _ ht _ hg _ _ _=>(hn n k v ht hg).elim⟩
structure Rel (B:aJ) (ρ:aw) (h:Tr ae) (w:World):Prop where
 is:∀n o,n<top->h.get n=some o->∃b N o',ρ n=some (b,N)/\w.heap[b]? =some o'/\OR ρ N o o'/\(o.du=false->B.may b)
 one:∀n m o p b N M,n<top->m<top->h.get n=some o->h.get m=some p->(o.du=false\/p.du=false)->ρ n=some (b,N)->ρ m=some (b,M)->n=m
 iter:∀n m es ex left cur,n<top->h.get n=some (.iter m es ex left cur)->m<top/\h.get m=some .jP/\np ρ w n m es ex left cur
 size:∀k,w.heap.size<=k->B.may k
 lone:∀i j m es ex left cur hJ iW iK iL,i<top->j<top->h.get i=some (.iter m es ex left cur)->h.get j=some (.iter m hJ iW iK iL)->i=j
 fz:Fz B ρ h w
 tk:uO B ρ h w
end Go.Rn
namespace Go.Rn
variable {α β:Type}
structure AS where
 h:Tr ae
 nx:Nat
 mark:Nat
 rd:List Nat
 wr:List Nat
inductive R (α:Type) where
 |bad
 |ok (a:α) (s:AS)
def M(α:Type):Type:=AS->R α
noncomputable def M.pure(a:α):M α:=fun s=>.ok a s
noncomputable def M.bind(m:M α)(f:α->M β):M β:=fun s=> @R.rec α (fun _=>R β) .bad (fun a s1=>f a s1)<|m s
noncomputable instance:Monad M where
 pure:=M.pure
 bind:=M.bind
noncomputable def fail:M α:=fun _=>.bad
noncomputable def lift(o:Option α):M α:=fun s=> @Option.rec α (fun _=>R α) .bad (fun a=>.ok a s) o
noncomputable def aC(o:Option α)(f:α->M β):M β:=fun s=> @Option.rec α (fun _=>R β) .bad (fun a=>f a s) o
noncomputable def qc(b:Bool):M Unit:=fun s=> @Bool.rec (fun _=>R Unit) .bad (.ok () s) b
noncomputable def aF(b:Bool)(m:M β):M β:=fun s=> @Bool.rec (fun _=>R β) .bad (m s) b
noncomputable def forced(n:Nat)(k:Nat->α):α:= @Nat.rec (fun _=>α) (k 0) (fun m _=>k<|m+1) n
theorem zD(n:Nat)(k:Nat->α):forced n k=k n:=by cases n<;>rfl
noncomputable def bw(n:Nat):M ae:=fun s=>
 @AS.rec (fun _=>R ae) (fun h nx mark rd wr=>
  @Bool.rec (fun _=>R ae) .bad
   (@Option.rec ae (fun _=>R ae) .bad
    (fun o=> @Bool.rec (fun _=>R ae) (.ok o ⟨h,nx,mark,rd,wr⟩) (.ok o ⟨h,nx,mark,n::rd,wr⟩)<|Nat.blt n mark)
    (h.get n))
   (Nat.blt n nx)) s
noncomputable def bM(n:Nat)(o:Option ae):M Unit:=fun s=>
 @AS.rec (fun _=>R Unit) (fun h nx mark rd wr=>
  @Bool.rec (fun _=>R Unit) .bad
   (@Option.rec ae (fun _=>R Unit) .bad
    (fun p=> @Bool.rec (fun _=>R Unit)
     (@Bool.rec (fun _=>R Unit) (.ok () ⟨h.put n o,nx,mark,rd,wr⟩) (.ok () ⟨h.put n o,nx,mark,n::rd,n::wr⟩)<|Nat.blt n mark)
     .bad p.du)
    (h.get n))
   (and (Nat.blt n nx)<|Nat.blt n top)) s
noncomputable def gC(o:ae):M Nat:=fun s=> @AS.rec (fun _=>R Nat) (fun h nx mark rd wr=> @Bool.rec (fun _=>R Nat) .bad (forced nx fun m=>.ok m ⟨h.put m<|some o,m+1,mark,rd,wr⟩)<|Nat.blt nx top) s
end Go.Rn
namespace Go.Rn
noncomputable section
def Ha:Value->Option AV
 | .bool b=>some<|.bool b
 | .int k n=>some<|.int k n
 | .string s=>some<|.str s
 | .pointer none=>some<|.ptr none
 | .slice none len cap=>match Nat.beq len 0&&Nat.beq cap 0 with
  |true=>some<|.slice none 0<|.known 0
  |false=>none
 | .map none=>some<|.map none
 | .nilFunc=>some .nilFunc
 | .nilIface=>some .nilIface
 |_=>none
def xK:List Value->Option (List AV)
 |[]=>some []
 |v::l=>match Ha v with
  |none=>none
  |some x=>match xK l with
   |none=>none
   |some r=>some<|x::r
def ofValue:Value->Option AV
 | .agg cs=>match xK cs.toList with
  |none=>none
  |some l=>some<|.agg l
 | .tuple cs=>match xK cs.toList with
  |none=>none
  |some l=>some<|.tuple l
 |v=>Ha v
def fH:Nat:=256
def aK(t:Tr AV)(x:Operand):Option AV:= @Operand.rec (fun _=>Option AV) (fun i=>t.get i) (fun v=>ofValue v) (fun g=> @Bool.rec (fun _=>Option AV) none (some<|.ptr<|some (g,0))<|Nat.blt g fH) (fun f=>some<|.func (.func f) [] []) x
def eC(P:Program)(t:TypeId):Option Nat:=
 match P.info? t with
 |none=>none
 |some i=>some i.size
def qK(P:Program)(t:TypeId):Option AV:=
 match P.info? t with
 |none=>none
 |some i=>match i.zero with
  |none=>none
  |some v=>ofValue v
def qV(P:Program)(t:TypeId):Option Bool:=
 match P.underlying t with
 |some (.struct _)=>some true
 |some (.array _ _)=>some true
 |some _=>some false
 |none=>none
def lY(t:Tr AV)(z:List AV):Nat->Nat->Option (List AV)
 |0,_=>some []
 |k+1,off=>match cellAt t z off with
  |none=>none
  |some v=>match lY t z k (off+1) with
   |none=>none
   |some l=>some<|v::l
def jd(n off:Nat):Nat->M (List AV)
 |0=>M.pure []
 |k+1=>(bw n).bind fun o=>match o with
  | .cells m t z=>aF (Nat.ble (off+(k+1)) m) <| lift<|lY t z (k+1) off
  | .ro m t=>aF (Nat.ble (off+(k+1)) m) <| lift<|lY t [] (k+1) off
  |_=>fail
def rL(n off:Nat)(l:List AV):M Unit:=
  match l with
  |[]=>M.pure ()
  | x ::r=>(bw n).bind fun o=>match o with
    | .cells m t z=>aF (and (Nat.ble (off+(r.length+1)) m)<|and (Nat.ble m top)<|(x::r).all AV.cj) <|
      bM n (some<|.cells m (Tr.fill (x::r) off t) z)
    |_=>fail
def newRow(l:List AV):M Nat:=aF (and (Nat.ble l.length top)<|l.all AV.cj) <| gC<|.cells l.length (Tr.fill l 0 .nil) []
def one:List AV->Option AV
 |[v]=>some v
 |_=>none
def loadVar(P:Program)(t:TypeId)(n off:Nat):M AV:=
 aC (qV P t) fun ag=>match ag with
  |true=>aC (eC P t) fun k=>(jd n off k).bind fun l=>M.pure<|.agg l
  |false=>(jd n off 1).bind fun l=>lift<|one l
def storeVar(P:Program)(t:TypeId)(n off:Nat)(v:AV):M Unit:=aC (eC P t) fun k=>aF (Nat.beq v.cells.length k) <| rL n off v.cells
def addrOf:AV->Option (Nat×Nat)
 | .ptr (some a)=>some a
 |_=>none
def intOf:AV->Option Int
 | .int _ n=>some n
 |_=>none
def xU:AV->Option Bool
 | .bool b=>some b
 |_=>none
def vV(P:Program)(t:TypeId)(cs:List AV)(off:Nat):Option AV:=
 match qV P t with
 |none=>none
 |some true=>match eC P t with
  |none=>none
  |some k=>some<|.agg<|(cs.drop off).take k
 |some false=>cs[off]?
def GI:List AV->List AV->Nat->List AV
 |cs,[],_=>cs
 |cs,c::l,off=>GI (cs.set off c) l<|off+1
def xV(place:Nat->Option (Nat×Nat)):List AV->List (Nat×AV)->Option (List AV)
 |cells,[]=>some cells
 |cells,(i,v)::rest=>match place i with
  |none=>none
  |some (off,size)=>
   match Nat.beq v.cells.length size&&Nat.ble (off+v.cells.length) cells.length with
   |false=>none
   |true=>xV place (GI cells v.cells off) rest
def jQ(ev:Operand->Option AV):List Operand->Option (List AV)
 |[]=>some []
 |x::l=>match ev x with
  |none=>none
  |some v=>match jQ ev l with
   |none=>none
   |some r=>some<|v::r
def vW(ev:Operand->Option AV):List (Nat×Operand)->Option (List<|Nat×AV)
 |[]=>some []
 |(i,x)::l=>match ev x with
  |none=>none
  |some v=>match vW ev l with
   |none=>none
   |some r=>some<|(i,v)::r
def BG(P:Program):List Field->Option (List<|Nat×Nat)
 |[]=>some []
 |f::l=>match eC P f.type with
  |none=>none
  |some k=>match BG P l with
   |none=>none
   |some r=>some<|(f.offset,k)::r
def build(P:Program)(t:TypeId)(parts:List<|Nat×AV):Option AV:=
 match qK P t with
 |none=>none
 |some z=>match P.underlying t with
  |some (.struct fs)=>match BG P fs.toList with
   |none=>none
   |some pl=>match xV (fun i=>pl[i]?) z.cells parts with
    |none=>none
    |some l=>some<|.agg l
  |some (.array _ e)=>match eC P e with
   |none=>none
   |some k=>match xV (fun i=>some (i*k,k)) z.cells parts with
    |none=>none
    |some l=>some<|.agg l
  |_=>none
def GJ:Nat->List AV->List AV
 |0,_=>[]
 |n+1,z=>z++GJ n z
def buildSlice(P:Program)(t:TypeId)(len:Nat)(parts:List<|Nat×AV):M AV:=do
  match P.underlying t with
  | some (.slice e)=>do
    let k ←lift (eC P e)
    let z ←lift (qK P e)
    qc (Nat.ble (len*k) 1048576&&Nat.beq z.cells.length k)
    let l ←lift (xV (fun i=>some (i*k,k)) (GJ len z.cells) parts)
    let r ←newRow l
    pure (.slice (some (r,0)) len<|.known len)
  |_=>fail
def fieldAddr(P:Program)(s:TypeId)(x:AV)(field:Nat):Option AV:=
 match P.underlying s with
 |some (.struct fs)=>match fs[field]? with
  |none=>none
  |some f=>match eC P f.type with
   |none=>none
   |some k=>match Nat.beq k 0 with
    |true=>none
    |false=>match x with
     | .ptr (some (n,o))=>some<|.ptr<|some (n,o+f.offset)
     | .p9 n o=>some<|.p9 n<|o+f.offset
     |_=>none
 |_=>none
def VE(P:Program)(s:TypeId)(x:AV)(field:Nat):Option AV:=
 match P.underlying s,x with
 |some (.struct fs),.agg cs=>match fs[field]? with
  |none=>none
  |some f=>vV P f.type cs f.offset
 |_,_=>none
def within(i:Int)(len:Nat):Option Nat:=
 match i with
 | .ofNat n=>match Nat.blt n len with
  |true=>some n
  |false=>none
 | .negSucc _=>none
def indexAddr(P:Program)(t:TypeId)(x ix:AV):Option AV:=
 match intOf ix with
 |none=>none
 |some i=>match P.underlying t,x with
  |some (.array len e),.ptr (some (n,o))=>match within i len,eC P e with
   |some j,some k=>some<|.ptr<|some (n,o+j*k)
   |_,_=>none
  |some (.slice e),.slice (some (n,o)) len _=>match within i len,eC P e with
   |some j,some k=>some<|.ptr<|some (n,o+j*k)
   |_,_=>none
  |some (.slice e),.ab n o len=>match within i len,eC P e with
   |some j,some k=>some<|.p9 n<|o+j*k
   |_,_=>none
  |_,_=>none
def indexOf(P:Program)(t:TypeId)(x ix:AV):Option AV:=
 match intOf ix with
 |none=>none
 |some i=>match P.underlying t,x with
  |some (.array len e),.agg cs=>match within i len,eC P e with
   |some j,some k=>vV P e cs<|j*k
   |_,_=>none
  |some .string,.str s=>match within i s.size with
   |some j=>match s.data.toList[j]? with
    |some b=>some<|.int .u8 b.toNat
    |none=>none
   |none=>none
  |_,_=>none
def bound(x:Option AV)(qW ajI:Nat):Option Nat:=
 match x with
 |none=>some ajI
 |some v=>match intOf v with
  |none=>none
  |some i=>within i<|qW+1
def opt(ev:Operand->Option AV):Option Operand->Option (Option AV)
 |none=>some none
 |some x=>match ev x with
  |none=>none
  |some v=>some<|some v
def jB(len:Nat)(c:cM):Nat:=
 match c with
 | .known c=>c
 | .ar lo _=>lo
 | .lost=>len
def slice3(k:Nat)(a:Option<|Nat×Nat)(low:Nat)(lo hi:Option AV)(mx:AV):Option AV:=
 match bound (some mx) low 0 with
 |none=>none
 |some m=>match hi with
  |none=>none
  |some hi=>match bound (some hi) m 0 with
   |none=>none
   |some h=>match bound lo h 0 with
    |none=>none
    |some l=>match a with
     |none=>some<|.slice none (h - l)<|.known<|m - l
     |some (n,o)=>match Nat.beq m l with
      |true=>some<|.slice (some (n,o)) (h - l)<|.known<|m - l
      |false=>some<|.slice (some (n,o+l*k)) (h - l)<|.known<|m - l
def rU(P:Program)(t:TypeId)(x:AV)(lo hi mx:Option AV):Option AV:=
 match P.underlying t,x with
 |some (.slice e),.slice a len cap=>
  match eC P e with
  |none=>none
  |some k=>
   match mx with
   |some mx=>match cap with
    | .lost=>none
    |cap=>slice3 k a (jB len cap) lo hi mx
   |none=>
    match bound hi (jB len cap) len with
    |none=>none
    |some h=>match bound lo h 0 with
     |none=>none
     |some l=>match a,cap with
      |none,.known c=>some<|.slice none (h - l)<|.known<|c - l
      |none,_=>none
      |some (n,o),.known c=>match Nat.beq c l with
       |true=>some<|.slice (some (n,o)) (h - l)<|.known<|c - l
       |false=>some<|.slice (some (n,o+l*k)) (h - l)<|.known<|c - l
      |some (n,o),.ar b e=>match Nat.beq l 0 with
       |true=>some<|.slice (some (n,o)) (h - l)<|.ar b e
       |false=>none
      |some _,.lost=>none
 |some (.slice e),.ab n o len=>match eC P e with
  |none=>none
  |some k=>match mx with
   |some _=>none
   |none=>match bound hi len len with
    |none=>none
    |some h=>match bound lo h 0 with
     |none=>none
     |some l=>match Nat.ble top n with
      |true=>some<|.ab n (o+l*k)<|h - l
      |false=>none
 |some (.array len e),.ptr (some (n,o))=>
  match eC P e with
  |none=>none
  |some k=>match mx with
   |some _=>none
   |none=>match bound hi len len with
    |none=>none
    |some h=>match bound lo h 0 with
     |none=>none
     |some l=>match Nat.beq len l with
      |true=>some<|.slice (some (n,o)) (h - l)<|.known<|len - l
      |false=>some<|.slice (some (n,o+l*k)) (h - l)<|.known<|len - l
 |_,_=>none
def room:Nat:=140737488355328
def makeSlice(P:Program)(t:TypeId)(len cap:AV):M AV:=
 match P.underlying t with
 |some (.slice e)=>
  aC (intOf len) fun l=>aC (intOf cap) fun c=>aC (P.info? e) fun i=>aC (within c room) fun c=>aC (within l<|c+1) fun l=>aC (qK P e) fun z=>
  aF (and (Nat.ble (c*i.bytes) room)<|and (Nat.ble (c*i.size) top)<|and (or (Nat.beq (c*i.size) 0)<|not<|Nat.beq z.cells.length 0)<|z.cells.all AV.cj) <|
  (gC<|.cells (c*i.size) .nil z.cells).bind fun r=>M.pure<|.slice (some (r,0)) l<|.known c
 |_=>fail
def firstCells(size n:Nat):AV->M (List AV)
 | .slice (some _) 0 .lost=>aF (Nat.beq n 0) <| M.pure []
 | .slice (some (m,o)) _ _=>jd m o<|n*size
 | .slice none _ _=>M.pure []
 |_=>fail
def lenOf:AV->Option Nat
 | .slice _ n _=>some n
 |_=>none
def grown(size bytes nq:Nat)(dG new:List AV):M AV:=
 aF (and (Nat.ble (2*nq*bytes+4096*bytes) room)<|not<|Nat.beq bytes 0) <|
 (newRow<|dG++new).bind fun r=>M.pure<|.slice (some (r,0)) nq<|.ar nq size
def xz(n off:Nat)(l:List AV):M Unit:=
  match l with
  |[]=>M.pure ()
  | x ::r=>(bw n).bind fun o=>match o with
    | .cells m t z=>aF (and (Nat.ble off m)<|and (Nat.ble (max m<|off+(r.length+1)) top)<|(x::r).all AV.cj) <|
      bM n (some<|.cells (max m<|off+(r.length+1)) (Tr.fill (x::r) off t) z)
    |_=>fail
def ae.zJ:ae->Bool
 | .cells _ _ _=>true
 |_=>false
def tJ(i:TypeInfo):Bool:=
 match i.zero with
 |none=>false
 |some v=>Nat.beq v.cells.size i.size
def rM(size bytes:Nat)(base:Option<|Nat×Nat)(len:Nat)(cap:cM)(n:Nat)(new:List AV):M AV:=
 match cap with
 | .known c=>match Nat.ble (len+n) c with
  |true=>(match base with
   |some (m,o)=>rL m (o+len*size) new
   |none=>M.pure ()).bind fun _=>M.pure (.slice base (len+n)<|.known c)
  |false=>(firstCells size len<|.slice base len<|.known c).bind fun dG=>grown size bytes (len+n) dG new
 | .ar lo sz=>aF (Nat.beq sz size) <| match Nat.ble (len+n) lo with
  |true=>match base with
   |some (m,o)=>(xz m (o+len*size) new).bind fun _=>M.pure<|.slice (some (m,o)) (len+n)<|.ar lo sz
   |none=>fail
  |false=>match base with
   |some (m,0)=>(jd m 0<|len*size).bind fun dG=>(bw m).bind fun o=>aF o.zJ <| (bM m none).bind fun _=>grown size bytes (len+n) dG new
   |_=>fail
 | .lost=>fail
def pP(P:Program)(t:Option TypeId):Bool:=
 match t with
 |none=>true
 |some t=>match P.underlying t with
  |some (.int _)=>false
  |some _=>true
  |none=>false
def pL(P:Program)(argTypes:Array TypeId)(s x:AV):M AV:=
 aC argTypes[0]? fun t=>match P.underlying t,s with
 |some (.slice e),.slice base len cap=>
  aC (P.info? e) fun i=>aF (and (tJ i)<|pP P argTypes[1]?) <| aC (lenOf x) fun n=>(firstCells i.size n x).bind fun new=>
  aF (Nat.beq new.length<|n*i.size) <| rM i.size i.bytes base len cap n new
 |_,_=>fail
def aeF:AV->Bool
 | .slice _ _ .lost=>false
 |_=>true
def zR(P:Program)(argTypes:Array TypeId)(d x:AV):M AV:=
 aC argTypes[0]? fun t=>match P.underlying t,d with
 |some (.slice e),.slice base len cap=>
  aC (eC P e) fun k=>aC (lenOf x) fun m=>aF (aeF<|.slice base len cap) <| (firstCells k (Nat.min m len) x).bind fun cells=>
  (match base with
  |some (r,o)=>rL r o cells
  |none=>M.pure ()).bind fun _=>M.pure (.int .i64 (Nat.min m len:Nat))
 |_,_=>fail
def eqFields(P:Program)(eq:TypeId->AV->AV->Option Bool)(xs ys:List AV):List Field->Option Bool
 |[]=>some true
 |f::l=>match f.name == "_" with
  |true=>eqFields P eq xs ys l
  |false=>match vV P f.type xs f.offset,vV P f.type ys f.offset with
   |some a,some b=>match eq f.type a b with
    |none=>none
    |some false=>some false
    |some true=>eqFields P eq xs ys l
   |_,_=>none
def QM(n len:Nat):Option Bool:=match len with
 |0=>match Nat.beq n top with
  |true=>some true
  |false=>match Nat.beq n (top+1) with
   |true=>some false
   |false=>none
 |_+1=>some false
def qo(P:Program):Nat->TypeId->AV->AV->Option Bool
 |0,_,_,_=>none
 |d+1,t,x,y=>
  match P.underlying t,x,y with
  |some .bool,.bool a,.bool b=>some<|a == b
  |some (.int _),.int k a,.int k' b=>match decide (k=k') with
   |true=>some<|a == b
   |false=>none
  |some (.pointer _),.ptr none,.ptr b=>some b.isNone
  |some (.pointer _),.ptr (some _),.ptr none=>some false
  |some (.struct fs),.agg xs,.agg ys=>match P.stoodInHeld t with
   |true=>none
   |false=>eqFields P (qo P d) xs ys fs.toList
  |some (.slice _),.slice none _ _,.slice b _ _=>some b.isNone
  |some (.slice _),.slice (some _) _ _,.slice none _ _=>some false
  |some (.slice _),.ab n _ len,.slice none _ _=>QM n len
  |_,_,_=>none
def isConst:Operand->Bool
 | .const _=>true
 |_=>false
def NQ(P:Program)(t:TypeId)(x y:Operand)(a b:AV):Bool:=
 match a,b with
 | .nilIface,.nilIface=>isConst x||isConst y
 | .agg _,.agg _=> !P.eqGuardType P.depth t
 |_,_=>true
def EG(op:BinOp)(k:IntKind)(a b:Int):Option AV:=
 match op with
 | .add=>some<|.int k<|k.wrap<|a+b
 | .sub=>some<|.int k<|k.wrap<|a - b
 | .mul=>some<|.int k<|k.wrap<|a*b
 | .quo=>match decide (b=0) with
  |true=>none
  |false=>some<|.int k<|k.wrap<|a.tdiv b
 | .rem=>match decide (b=0) with
  |true=>none
  |false=>some<|.int k<|a.tmod b
 | .and=>some<|.int k<|k.wrap (BitVec.ofInt k.bits a&&& BitVec.ofInt k.bits b).toNat
 | .or=>some<|.int k<|k.wrap (BitVec.ofInt k.bits a|||BitVec.ofInt k.bits b).toNat
 | .xor=>some<|.int k<|k.wrap (BitVec.ofInt k.bits a ^^^ BitVec.ofInt k.bits b).toNat
 | .andNot=>some<|.int k<|k.wrap (BitVec.ofInt k.bits a&&& ~~~BitVec.ofInt k.bits b).toNat
 | .eql=>some<|.bool<|a == b
 | .neq=>some<|.bool<|a != b
 | .lss=>some<|.bool<|a<b
 | .leq=>some<|.bool<|a<=b
 | .gtr=>some<|.bool<|a>b
 | .geq=>some<|.bool<|a>=b
 |_=>none
def Pa(op:BinOp)(k:IntKind)(x y:Int):Option AV:=
 match decide (y<0) with
 |true=>none
 |false=>match op with
  | .shl=>some<|.int k<|k.wrap<|x*2 ^ min y.toNat k.bits
  | .shr=>some<|.int k<|x.fdiv<|2 ^ min y.toNat k.bits
  |_=>none
def zK:BinOp->Bool
 | .shl| .shr=>true
 |_=>false
def BU(P:Program)(op:BinOp)(t:TypeId)(x y:AV):Option AV:=
 match x,y with
 | .int k a,.int k' b=>match zK op with
  |true=>Pa op k a b
  |false=>match decide (k=k') with
   |true=>EG op k a b
   |false=>none
 |x,y=>match op with
  | .eql=>match qo P Op.maxDepth t x y with
   |none=>none
   |some b=>some<|.bool b
  | .neq=>match qo P Op.maxDepth t x y with
   |none=>none
   |some b=>some<|.bool !b
  |_=>none
def Xr(op:UnOp)(x:AV):Option AV:=
 match op,x with
 | .not,.bool b=>some<|.bool !b
 |_,_=>none
def OD(P:Program)(src dst:TypeId)(x:AV):Option AV:=
 match P.underlying src,P.underlying dst,x with
 |some _,some (.int k),.int _ n=>some<|.int k<|k.wrap n
 |_,_,_=>none
def plainKey(P:Program)(t:TypeId)(key:AV):Bool:=
 match P.underlying t,key with
 |some (.int _),.int _ _=>true
 |some .string,.str _=>true
 |some .bool,.bool _=>true
 |_,_=>false
def kZ(key:AV):List (AV×AV)->Nat->Option (Option<|Nat×AV)
 |[],_=>some none
 |(k,v)::l,i=>match sameKey key k with
  |none=>none
  |some true=>some<|some (i,v)
  |some false=>kZ key l<|i+1
def GK(P:Program)(t:TypeId)(key:AV):List (AV×AV)->Nat->Option (Option<|Nat×AV)
 |[],_=>some none
 |(k,v)::l,i=>match qo P Op.maxDepth t key k with
  |none=>none
  |some true=>some<|some (i,v)
  |some false=>GK P t key l<|i+1
def uP:AV->Bool
 | .LI _=>false
 |_=>true
def findKey(P:Program)(t:TypeId)(key:AV)(es:List<|AV×AV):Option<|Option<|Nat×AV:=
 match uP key with
 |false=>none
 |true=>match plainKey P t key with
  |true=>kZ key es 0
  |false=>GK P t key es 0
def Gp(P:Program)(CX:TypeId->AV->Bool)(cs:List AV):List Field->Bool
 |[]=>true
 |f::l=>match f.name == "_" with
  |true=>Gp P CX cs l
  |false=>match vV P f.type cs f.offset with
   |none=>false
   |some a=>match CX f.type a with
    |true=>Gp P CX cs l
    |false=>false
def oT(P:Program):Nat->TypeId->AV->Bool
 |0,_,_=>false
 |d+1,t,x=>match P.underlying t,x with
  |some .bool,_=>true
  |some (.int _),_=>true
  |some .string,_=>true
  |some (.struct fs),.agg cs=>Gp P (oT P d) cs fs.toList
  |_,_=>false
def WJ(r:Nat):M<|List<|AV×AV:=do
 match ←bw r with
 | .map es _=>pure es
 | .lF es=>pure es
 |_=>fail
def short:List (AV×AV)->Bool
 |[]=>true
 |[_]=>true
 |_=>false
def zS(P:Program)(k:TypeId)(key x:AV):M<|List<|AV×AV:=
 match x with
 | .map none=>M.pure []
 | .map (some r)=>(bw r).bind fun o=>match o with
  | .map es _=>M.pure es
  | .lF es=>aF (or (plainKey P k key)<|short es) <| M.pure es
  |_=>fail
 |_=>fail
def AO(ok:Bool)(v:AV)(b:Bool):AV:=
 match ok with
 |true=>.tuple [v,.bool b]
 |false=>v
def zL(P:Program)(t:TypeId)(x key:AV)(ok:Bool):M AV:=
 match P.underlying t with
 |some (.map k e)=>(zS P k key x).bind fun es=>aF (oT P 10000 k key) <| aC (findKey P k key es) fun f=>match f with
  |some q=>M.pure<|AO ok q.2 true
  |none=>aC (qK P e) fun z=>M.pure<|AO ok z false
 |_=>fail
def D5:List AV->List AV->Bool
 |[],[]=>true
 |x::xs,y::ys=>match sameKey x y with
  |some true=>D5 xs ys
  |_=>false
 |_,_=>false
def sameBits:AV->AV->Bool
 | .agg xs,.agg ys=>D5 xs ys
 |x,y=>match sameKey x y with
  |some true=>true
  |_=>false
def putAt:List (AV×AV)->Nat->AV->AV->List (AV×AV)
 |[],_,_,_=>[]
 |_::l,0,k,v=>(k,v)::l
 |x::l,i+1,k,v=>x::putAt l i k v
def EH(r:Nat)(key val:AV)(es:List<|AV×AV)(bj:Nat)(f:Option<|Nat×AV):M Unit:=
 match f with
 |some q=>aC es[q.1]? fun dG=>aF (sameBits dG.1 key) <| bM r<|some<|.map (putAt es q.1 key val) bj
 |none=>bM r<|some<|.map (es++[(key,val)])<|bj+1
def Bv(r:Nat)(key val:AV)(es:List<|AV×AV)(f:Option<|Nat×AV):M Unit:=
 match f with
 |some q=>bM r<|some<|.lF<|putAt es q.1 key val
 |none=>bM r<|some<|.lF<|es++[(key,val)]
def xW(P:Program)(t:TypeId)(m key val:AV):M Unit:=
 match P.underlying t,m with
 |some (.map k _),.map (some r)=>(bw r).bind fun o=>match o with
  | .map es bj=>aF (oT P 10000 k key) <| aC (findKey P k key es) fun f=>EH r key val es bj f
  | .lF es=>aF (and (plainKey P k key)<|oT P 10000 k key) <| aC (findKey P k key es) fun f=>Bv r key val es f
  |_=>fail
 |_,_=>fail
def As(P:Program)(argTypes:Array TypeId)(x:AV):M AV:=do
 let t ←lift argTypes[0]?
 match P.underlying t,x with
 |some (.slice _),.slice _ n _=>pure<|.int .i64 n
 |some (.slice _),.ab _ _ n=>pure<|.int .i64 n
 |_,_=>fail
def min2:AV->AV->Option AV
 | .int k x,.int _ y=>some<|.int k (match decide (y<x) with|true=>y|false=>x)
 |_,_=>none
def max2:AV->AV->Option AV
 | .int k x,.int _ y=>some<|.int k (match decide (y>x) with|true=>y|false=>x)
 |_,_=>none
def Ei(f:AV->AV->Option AV):List AV->AV->Option AV
 |[],x=>some x
 |y::l,x=>match f x y with
  |none=>none
  |some z=>Ei f l z
def zE(P:Program)(b:Builtin)(argTypes:Array TypeId)(args:List AV):M AV:=
 match b,args with
 | .len,[x]=>As P argTypes x
 | .append,[s,x]=>pL P argTypes s x
 | .copy,[d,x]=>zR P argTypes d x
 | .min,x::l=>lift<|Ei min2 l x
 | .max,x::l=>lift<|Ei max2 l x
 |_,_=>fail
inductive Io where
 |fn (f:FuncId)
 |round (l:Nat)
 |row (n o k:Nat)
def nr(SI:Io->List AV->M AV)(f:AV)(args:List AV):M AV:=
 match f with
 | .func (.func g) first captured=>SI (.fn g)<|first++args++captured
 | .yield l=>SI (.round l) args
 |_=>fail
abbrev aO:=Io->List AV->M AV
abbrev gG:=aO->Tr AV->M AV
inductive rk (α:Type) where
 |mk (a:α)
def vX(x:Operand):gG:=fun _ t=>lift<|aK t x
def Ch(c a b:Operand):gG:=fun _ t=>
 aC (aK t c) fun c=>aC (xU c) fun c=>aC (aK t a) fun a=>aC (aK t b) fun b=>
  match c with
  |true=>M.pure a
  |false=>M.pure b
def Ks(P:Program)(e:TypeId):gG:=fun _ _=>aC (qK P e) fun z=>(newRow z.cells).bind fun r=>M.pure<|.ptr<|some (r,0)
def Cw(x:Operand):gG:=fun _ t=>aC (aK t x) fun v=>(newRow v.cells).bind fun r=>M.pure<|.ptr<|some (r,0)
def BV(P:Program)(ty:TypeId)(parts:List<|Nat×Operand):gG:=fun _ t=>aC (vW (aK t) parts) fun ps=>lift<|build P ty ps
def Bk(P:Program)(ty:TypeId)(len:Nat)(parts:List<|Nat×Operand):gG:=fun _ t=>aC (vW (aK t) parts) fun ps=>buildSlice P ty len ps
def xL(P:Program)(ty:TypeId)(n o:Nat):M AV:=
 aC (qV P ty) fun ag=>match ag with
  |true=>fail
  |false=>(bw n).bind fun ob=>match ob with
   | .uj m t=>aF (Nat.blt o m) <| lift<|t.get o
   |_=>fail
def vD(P:Program)(ty:TypeId)(SI:aO)(n o:Nat):M AV:=
 aC (qV P ty) fun ag=>aC (eC P ty) fun k=>(SI (.row n o (match ag with|true=>k|false=>1)) []).bind fun v=>match v with
  | .agg l=>match ag with
   |true=>M.pure<|.agg l
   |false=>lift<|one l
  |_=>fail
def loadAt(P:Program)(ty:TypeId)(SI:aO)(a:AV):M AV:=
 match a with
 | .p9 n o=>match Nat.ble top n with
  |true=>vD P ty SI n o
  |false=>xL P ty n o
 |a=>aC (addrOf a) fun a=>loadVar P ty a.1 a.2
def uk(P:Program)(ty:TypeId)(a:Operand):gG:=fun SI t=>aC (aK t a) fun a=>loadAt P ty SI a
def xX(P:Program)(ty:TypeId)(a x:Operand):gG:=fun _ t=>aC (aK t a) fun a=>aC (addrOf a) fun a=>aC (aK t x) fun v=>(storeVar P ty a.1 a.2 v).bind fun _=>M.pure nj
def notNil:AV->Bool
 | .ptr none| .nilIface| .nilFunc=>false
 | .func (.func _) _ _=>true
 | .func _ _ _=>false
 |_=>true
def Bp(x:Operand):gG:=fun _ t=>aC (aK t x) fun v=>aF (notNil v) <| M.pure v
def J0(P:Program)(op:BinOp)(t:TypeId)(x y:Operand)(a b:AV):Bool:=
 match op with
 | .eql| .neq=>NQ P t x y a b
 |_=>true
def uA(P:Program)(op:BinOp)(ty:TypeId)(x y:Operand):gG:=fun _ t=>aC (aK t x) fun a=>aC (aK t y) fun b=>aF (J0 P op ty x y a b) <| lift<|BU P op ty a b
def CY(op:UnOp)(x:Operand):gG:=fun _ t=>aC (aK t x) fun a=>lift<|Xr op a
def Bw(P:Program)(src dst:TypeId)(x:Operand):gG:=fun _ t=>
 aC (aK t x) fun a=>match a with
  | .slice _ _ _=>fail
  |a=>lift<|OD P src dst a
def DF(P:Program)(ty:TypeId)(x:Operand):gG:=fun _ _=>fail
def X8:Fn->Bool
 | .func _=>true
 |_=>false
def Bq(fn:Fn)(first captured:List Operand):gG:=fun _ t=>aF (X8 fn) <| aC (jQ (aK t) first) fun f=>aC (jQ (aK t) captured) fun c=>M.pure<|.func fn f c
def Lj(P:Program)(t:TypeId):Bool:=
 match P.underlying t with
 |some (.map _ _)=>true
 |_=>false
def Bx(P:Program)(ty:TypeId)(r:Option Operand):gG:=fun _ t=>
 (match r with
 |none=>M.pure ()
 |some x=>aC (aK t x) fun v=>aC (intOf v) fun _=>qc<|Lj P ty).bind fun _=>
 (gC<|.map [] 0).bind fun n=>M.pure<|.map<|some n
def Bm(P:Program)(ty:TypeId)(l c:Operand):gG:=fun _ t=>aC (aK t l) fun l=>aC (aK t c) fun c=>makeSlice P ty l c
def qI(P:Program)(ty:TypeId)(x:Operand)(lo hi mx:Option Operand):gG:=fun _ t=>aC (aK t x) fun x=>aC (opt (aK t) lo) fun lo=>aC (opt (aK t) hi) fun hi=>aC (opt (aK t) mx) fun mx=>lift<|rU P ty x lo hi mx
def Bn(P:Program)(s:TypeId)(x:Operand)(f:Nat):gG:=fun _ t=>aC (aK t x) fun x=>lift<|fieldAddr P s x f
def BW(P:Program)(s:TypeId)(x:Operand)(f:Nat):gG:=fun _ t=>aC (aK t x) fun x=>lift<|VE P s x f
def qC(P:Program)(ty:TypeId)(x i:Operand):gG:=fun _ t=>aC (aK t x) fun x=>aC (aK t i) fun i=>lift<|indexAddr P ty x i
def BX(P:Program)(ty:TypeId)(x i:Operand):gG:=fun _ t=>aC (aK t x) fun x=>aC (aK t i) fun i=>lift<|indexOf P ty x i
def xM(P:Program)(ty:TypeId)(x i:Operand)(ok:Bool):gG:=fun _ t=>aC (aK t x) fun x=>aC (aK t i) fun i=>zL P ty x i ok
def qF(P:Program)(ty:TypeId)(m k x:Operand):gG:=fun _ t=>aC (aK t m) fun m=>aC (aK t k) fun k=>aC (aK t x) fun x=>(xW P ty m k x).bind fun _=>M.pure nj
def D6(P:Program)(asserted:TypeId)(ok:Bool)(x:Operand):gG:=fun _ _=>fail
def BH(P:Program)(ty:TypeId)(x:AV):M AV:=
 match P.underlying ty,x with
 |some (.map _ _),.map (some m)=>(bw m).bind fun o=>match o with
  | .map es _=>(bM m<|some .jP).bind fun _=>(gC<|.iter m es true es none).bind fun n=>M.pure<|.ptr<|some (n,0)
  | .lF es=>(bM m<|some .jP).bind fun _=>(gC<|.iter m es false es none).bind fun n=>M.pure<|.ptr<|some (n,0)
  |_=>fail
 |_,_=>fail
def BY(P:Program)(ty:TypeId)(x:Operand):gG:=fun _ t=>aC (aK t x) fun x=>BH P ty x
def aeG(x:AV):M AV:=
 match x with
 | .ptr (some (n,0))=>(bw n).bind fun o=>match o with
  | .GW b pos=>match Nat.blt pos b.size with
   |true=>(bM n<|some<|.GW b<|pos+(Utf8.decode b pos).2).bind fun _=>M.pure<|.tuple [.bool true,.int .i64 pos,.int .i32 (Utf8.decode b pos).1]
   |false=>M.pure<|.tuple [.bool false]
  |_=>fail
 |_=>fail
def DV(x:Operand):gG:=fun _ _=>fail
def D7(x:AV):M AV:=
 match x with
 | .ptr (some (n,0))=>(bw n).bind fun o=>match o with
  | .iter _ _ _ _ (some (k,v))=>M.pure<|.tuple [k,v]
  |_=>fail
 |_=>fail
def BZ(x:Operand):gG:=fun _ t=>aC (aK t x) fun x=>D7 x
def partOf(x:AV)(i:Nat):Option AV:=
 match x with
 | .tuple l=>l[i]?
 |_=>none
def By(x:Operand)(i:Nat):gG:=fun _ t=>aC (aK t x) fun x=>lift<|partOf x i
def tK(SI:aO)(n o k:Nat):M<|List AV:=match k with
 |0=>M.pure []
 |k=>(SI (.row n o k) []).bind fun x=>match x with
  | .agg l=>aF (Nat.beq l.length k) <| M.pure l
  |_=>fail
def Qf(size len:Nat)(cap:cM):Bool:=
 match cap with
 | .known c=>and (Nat.beq c 0)<|Nat.beq len 0
 | .ar _ sz=>Nat.beq sz size
 | .lost=>false
def BI(P:Program)(SI:aO)(argTypes:Array TypeId)(s:AV)(n o k:Nat):M AV:=
 aF (Nat.ble top n) <| aC argTypes[0]? fun t=>match P.underlying t,s with
 |some (.slice e),.slice (some (m,0)) len cap=>
  aC (P.info? e) fun i=>aF (and (tJ i)<|pP P argTypes[1]?) <| aF (Qf i.size len cap) <|
  (tK SI n o<|k*i.size).bind fun new=>(jd m 0<|len*i.size).bind fun dG=>(bw m).bind fun ob=>aF ob.zJ <| (bM m none).bind fun _=>grown i.size i.bytes (len+k) dG new
 |_,_=>fail
def oz(P:Program)(b:Builtin)(argTypes:Array TypeId)(args:List Operand):gG:=fun SI t=>
 aC (jQ (aK t) args) fun args=>match b,args with
 | .append,[s,.ab n o k]=>BI P SI argTypes s n o k
 |b,args=>zE P b argTypes args
def uo(f:Operand)(args:List Operand):gG:=fun SI t=>aC (jQ (aK t) args) fun args=>aC (aK t f) fun f=>nr SI f args
def Pb(P:Program)(recv:Operand)(name:String)(args:List Operand):gG:=fun _ _=>fail
def Xs:gG:=fun _ _=>fail
def dO(P:Program)(op:Op):rk gG:=
 match op with
 | .move x=>.mk<|vX x
 | .assign x=>.mk<|vX x
 | .pick c a b=>.mk<|Ch c a b
 | .alloc e=>.mk<|Ks P e
 | .box _ x=>.mk<|Cw x
 | .build t parts=>.mk<|BV P t parts.toList
 | .buildSlice t len parts=>.mk<|Bk P t len parts.toList
 | .load t a=>.mk<|uk P t a
 | .store t a x=>.mk<|xX P t a x
 | .nilCheck x=>.mk<|Bp x
 | .binOp op t x y _=>.mk<|uA P op t x y
 | .unOp op _ x=>.mk<|CY op x
 | .convert src dst x=>.mk<|Bw P src dst x
 | .makeInterface t x=>.mk<|DF P t x
 | .makeFunc fn first captured=>.mk<|Bq fn first.toList captured.toList
 | .makeMap t r=>.mk<|Bx P t r
 | .makeSlice t l c=>.mk<|Bm P t l c
 | .slice t x lo hi mx=>.mk<|qI P t x lo hi mx
 | .fieldAddr s x f=>.mk<|Bn P s x f
 | .field s x f=>.mk<|BW P s x f
 | .indexAddr t x i=>.mk<|qC P t x i
 | .index t x i=>.mk<|BX P t x i
 | .lookup t x i ok=>.mk<|xM P t x i ok
 | .mapUpdate t m k x=>.mk<|qF P t m k x
 | .insert t m k x=>.mk<|qF P t m k x
 | .typeAssert x _ asserted ok=>.mk<|D6 P asserted ok x
 | .range t x=>.mk<|BY P t x
 | .entry x=>.mk<|BZ x
 | .next x true=>.mk<|DV x
 | .extract x i=>.mk<|By x i
 | .call ⟨.builtin b,args,argTypes⟩=>.mk<|oz P b argTypes args.toList
 | .call ⟨.value f,args,_⟩=>.mk<|uo f args.toList
 | .call ⟨.invoke recv name,args,_⟩=>.mk<|Pb P recv name args.toList
 |_=>.mk Xs
def rk.val{α:Type}(b:rk α):α:= @rk.rec α (fun _=>α) (fun a=>a) b
def Ip(P:Program)(SI:aO)(t:Tr AV)(op:Op):M AV:=(dO P op).val SI t
end
end Go.Rn
namespace Go.Rn
variable {α:Type}
noncomputable section
structure AF where
 fn:FuncId
 tmps:Tr AV
 nt:Nat
 todo:List Item
 defers:List Nat
 round:Option Nat
def jk(nt:Nat)(t:Tr AV)(dst:Option Tmp)(v:AV):Option<|Tr AV:= @Option.rec Tmp (fun _=>Option<|Tr AV) (some t) (fun d=> @Bool.rec (fun _=>Option<|Tr AV) none (some<|t.put d<|some v)<|Nat.blt d nt) dst
def GL(ops:Array Oper)(t:Tr AV)(j:Nat):Option Bool:=
 match ops[j]? with
 |none=>none
 |some o=>match o.dst with
  |none=>none
  |some d=>match t.get d with
   |some (.bool b)=>some b
   |_=>none
def qG(ops:Array Oper)(g:Nat×Bool)(t:Tr AV):Bool:=
 match GL ops t g.1 with
 |some b=>b == g.2
 |none=>false
def tU(ops:Array Oper)(t:Tr AV)(j:Nat):Bool:=
 match ops[j]? with
 |none=>true
 |some o=>match o.dst with
  |none=>true
  |some d=>(t.get d).isSome
abbrev Qg:=aO->Nat->Tr AV->M (Tr AV)
def sI(f:rk gG)(dst:Option Tmp):Qg:=fun SI nt t=>(f.val SI t).bind fun v=>lift<|jk nt t dst v
def uq(ops:Array Oper)(g:Nat×Bool)(f:rk gG)(dst:Option Tmp):Qg:=fun SI nt t=>aF (tU ops t g.1) <| @Bool.rec (fun _=>M<|Tr AV) (lift<|jk nt t dst nj) ((f.val SI t).bind fun v=>lift<|jk nt t dst v)<|qG ops g t
def Ci(P:Program)(ops:Array Oper)(o:Oper):rk Qg:=
 match o.guard with
 |none=>.mk<|sI (dO P o.op) o.dst
 |some g=>.mk<|uq ops g (dO P o.op) o.dst
def gP(P:Program)(SI:aO)(nt:Nat)(ops:Array Oper)(o:Oper)(t:Tr AV):M<|Tr AV:=(Ci P ops o).val SI nt t
def jl(P:Program)(SI:aO)(nt:Nat)(ops:Array Oper)(l:List Oper):Tr AV->M (Tr AV):= @List.rec Oper (fun _=>Tr AV->M (Tr AV)) (fun t=>M.pure t) (fun o _ ih t=>(gP P SI nt ops o t).bind ih) l
structure dC where
 i:Nat
 rd:List Nat
 wr:List Nat
 lo:Nat
 hi:Nat
def vy(m:Nat)(l:List Nat):List Nat:= @List.rec Nat (fun _=>List Nat) [] (fun x _ ih=> @Bool.rec (fun _=>List Nat) ih (List.cons x ih) (Nat.ble m x |> not)) l
def below(m:Nat)(l:List Nat):List Nat:= @Bool.rec (fun _=>List Nat) (vy m l) []<|Nat.beq m 0
def alone(i:Nat)(m:M α):M<|α×dC:=fun s=>
 @AS.rec (fun _=>R<|α×dC) (fun h nx mark rd wr=>forced nx fun lo=>
  @R.rec α (fun _=>R<|α×dC) .bad (fun a s1=>
   @AS.rec (fun _=>R<|α×dC) (fun h1 qp _ gu oh=>forced qp fun hi=>.ok (a,⟨i,below lo gu,below lo oh,lo,hi⟩) ⟨h1,hi,mark,below mark gu++rd,below mark oh++wr⟩) s1)
   (m ⟨h,lo,lo,[],[]⟩)) s
def nu(P:Program)(SI:aO)(nt:Nat)(ops:Array Oper):List Oper->Nat->Tr AV->M (Tr AV×List dC)
 |[],_,t=>M.pure (t,[])
 |o::l,i,t=>(alone i<|gP P SI nt ops o t).bind fun x=>(nu P SI nt ops l (i+1) x.1).bind fun y=>M.pure (y.1,x.2::y.2)
def Cx(n:Nat):List Nat->Bool
 |[]=>false
 |x::l=>match Nat.beq x n with
  |true=>true
  |false=>Cx n l
def meets:List Nat->List Nat->Bool
 |[],_=>false
 |x::l,m=>match Cx x m with
  |true=>true
  |false=>meets l m
def Ac(lo hi:Nat):List Nat->Bool
 |[]=>false
 |x::l=>match Nat.ble lo x&&Nat.blt x hi with
  |true=>true
  |false=>Ac lo hi l
def tV(x y:dC):Bool:= !(meets x.wr y.rd)&&(!(Ac x.lo x.hi y.rd))
def tW(x:dC):Bool:=match x.wr with
 |[]=>Nat.ble x.hi x.lo
 |_=>false
def tF(b:Array Nat)(x:dC):List dC->Bool
 |[]=>true
 |y::l=>match Nat.beq x.i y.i||(tV x y|| !loose b x.i y.i) with
  |true=>tF b x l
  |false=>false
def qL(b:Array Nat)(all:List dC):List dC->Bool
 |[]=>true
 |x::l=>match tW x||tF b x all with
  |true=>qL b all l
  |false=>false
def qD(P:Program)(SI:aO)(nt:Nat)(ops:Array Oper)(t:Tr AV):M<|Tr AV:=(nu P SI nt ops ops.toList 0 t).bind fun x=>aF (qL (Region.before ops) x.2 x.2) <| M.pure x.1
inductive br where
 |go (fr:AF)
 |leave (fr:AF) (anW:Option Code)
def getLoop(l:Nat):M ae:=(bw l).bind fun o=>match o with
 | .loop a b c d e f g h i=>M.pure<|.loop a b c d e f g h i
 |_=>fail
abbrev oU:=aO->FuncId->Tr AV->Nat->List Nat->Option Nat->List Item->M br
def qX:oU:=fun _ fn t nt d r k=>M.pure<|.go ⟨fn,t,nt,k,d,r⟩
def nS(l:List Item):oU:=fun _ fn t nt d r k=>M.pure<|.go ⟨fn,t,nt,l++k,d,r⟩
def Ll(c:Operand)(a b:Code):oU:=fun _ fn t nt d r k=>aC (aK t c) fun v=>aC (xU v) fun v=>M.pure<|.go ⟨fn,t,nt,.code (@Bool.rec (fun _=>Code) b a v)::k,d,r⟩
def EJ(id:Nat):oU:=fun _ fn t nt d r k=>match exitTo id k with
 |some k'=>M.pure<|.go ⟨fn,t,nt,k',d,r⟩
 |none=>M.pure<|.leave ⟨fn,t,nt,.code (.exit id)::k,d,r⟩<|some<|.exit id
def EK(l:Nat):oU:=fun _ fn t nt d r k=>match gotoIn l k with
 |some k'=>M.pure<|.go ⟨fn,t,nt,k',d,r⟩
 |none=>M.pure<|.leave ⟨fn,t,nt,.code (.goto l)::k,d,r⟩<|some<|.goto l
def X9:oU:=fun _ fn t nt d r k=>M.pure<|.leave ⟨fn,t,nt,.code .ret::k,d,r⟩<|some .ret
def J1(P:Program)(ops:Array Oper):oU:=fun SI fn t nt d r k=>(jl P SI nt ops ops.toList t).bind fun t=>M.pure<|.go ⟨fn,t,nt,k,d,r⟩
def JG(P:Program)(ops:Array Oper):oU:=fun SI fn t nt d r k=>(qD P SI nt ops t).bind fun t=>M.pure<|.go ⟨fn,t,nt,k,d,r⟩
def aeH:LoopState->Bool
 | .busy=>false
 |_=>true
def lf(l:Nat):M<|Option Code:=(getLoop l).bind fun o=>match o with
 | .loop st bS fn t nt ps a b dd=>aF (aeH st) <| (bM l<|some<|.loop .exhausted bS fn t nt ps a b dd).bind fun _=>M.pure bS
 |_=>fail
def andThen(p:Option Code)(k:List Item):List Item:=
 match p with
 |none=>k
 |some c=>.code c::k
def vE(f:Operand)(params:List Tmp)(assign body:Code):oU:=fun SI fn t nt d r k=>
 match r with
 |none=>
  (gC .defs).bind fun df=>(gC<|.loop .ready none fn t nt params assign body df).bind fun l=>
  aC (aK t f) fun g=>(nr SI g [.yield l]).bind fun _=>(lf l).bind fun p=>
  M.pure (.go ⟨fn,t,nt,andThen p k,df::d,r⟩)
 |some l0=>(getLoop l0).bind fun o=>match o with
  | .loop _ _ _ _ _ _ _ _ df=>
   (gC<|.loop .ready none fn t nt params assign body df).bind fun l=>
   aC (aK t f) fun g=>(nr SI g [.yield l]).bind fun _=>(lf l).bind fun p=>
   M.pure (.go ⟨fn,t,nt,andThen p k,d,r⟩)
  |_=>fail
def zT:oU:=fun _ fn t nt d r k=>
 match r with
 |none=>fail
 |some l=>(getLoop l).bind fun o=>match o with
  | .loop .ready bS fn1 t1 nt1 ps a b df=>(bM l<|some<|.loop .busy bS fn1 t1 nt1 ps a b df).bind fun _=>M.pure<|.go ⟨fn,t,nt,k,d,r⟩
  |_=>fail
def Qh:oU:=fun _ _ _ _ _ _ _=>fail
def Xt(P:Program)(c:Code):rk oU:=
 match c with
 | .skip=>.mk qX
 | .label _=>.mk qX
 | .seq a b=>.mk<|nS [.code a,.code b]
 | .cond c a b=>.mk<|Ll c a b
 | .block id b=>.mk<|nS [.code b,.inBlock id]
 | .loop b=>.mk<|nS [.code b,.inLoop b]
 | .scope b=>.mk<|nS [.code b,.inScope b]
 | .exit id=>.mk<|EJ id
 | .goto l=>.mk<|EK l
 | .ret=>.mk X9
 | .region _ ops false=>.mk<|J1 P ops
 | .region _ ops true=>.mk<|JG P ops
 | .rangeFunc f params a b=>.mk<|vE f params.toList a b
 | .refuse _=>.mk Qh
def vY(P:Program)(it:Item):rk oU:=
 match it with
 | .code c=>Xt P c
 | .inBlock _=>.mk qX
 | .inScope _=>.mk qX
 | .inLoop b=>.mk<|nS [.code b,.inLoop b]
 | .beginRound=>.mk zT
 |_=>.mk Qh
def jg(P:Program)(SI:aO)(fr:AF):M br:= @AF.rec (fun _=>M br) (fun fn t nt todo d r=> @List.rec Item (fun _=>M br) (M.pure<|.leave ⟨fn,t,nt,[],d,r⟩ none) (fun it k _=>(vY P it).val SI fn t nt d r k) todo) fr
def nU(P:Program)(SI:aO)(n:Nat):AF->M br:= @Nat.rec (fun _=>AF->M br) (jg P SI) (fun _ ih fr=>(ih fr).bind fun x=> @br.rec (fun _=>M br) ih (fun fr j=>M.pure<|.leave fr j) x) n
def qM(P:Program)(SI:aO)(n:Nat):Nat->AF->M br:= @Nat.rec (fun _=>Nat->AF->M br) (fun _ _=>fail) (fun _ ih k fr=>(nU P SI k fr).bind fun x=> @br.rec (fun _=>M br) (fun fr=>ih (Nat.succ k) fr) (fun fr j=>M.pure<|.leave fr j) x) n
def Bz(P:Program)(t:Tr AV):ResultVar->M AV
  | .tmp i=>lift<|t.get i
  | .cell a ty=>do
    let a ←lift (match t.get a with
      |some x=>addrOf x
      |none=>none)
    loadVar P ty a.1 a.2
def tI(P:Program)(t:Tr AV):List ResultVar->M (List AV)
  |[]=>pure []
  | r::l=>do
    let v ←Bz P t r
    let vs ←tI P t l
    pure (v::vs)
def rP:List Nat->M Unit
  |[]=>pure ()
  | d ::l=>do
    match ←bw d with
    | .defs=>do
      bM d none
      rP l
    |_=>fail
def dZ(l:List AV):Tr AV:=Tr.fill l 0 .nil
def je:List Tmp->List AV->Tr AV->Tr AV
 |p::ps,v::vs,t=>je ps vs<|t.put p<|some v
 |_,_,t=>t
def DW(fr:AF):Option<|Operand×Oper×Array Oper×List Oper×List Item:=
 match fr.todo with
 | .code (.region _ ops false)::k=>match ops.toList with
  |o::rest=>match o.guard,o.op with
   |none,.next it false=>some (it,o,ops,rest,k)
   |_,_=>none
  |[]=>none
 |_=>none
def ym:List α->List (α×List α)
 |[]=>[]
 |x::l=>(x,l)::(ym l).map fun(y,r)=>(y,x::r)
def mapOf(exact:Bool)(es:List<|AV×AV):ae:=
 match exact with
 |true=>.map es es.length
 |false=>.lF es
def pQ(P:Program)(SI:aO)(fr:AF)(n:Nat)(ob:ae)(o:Oper)(ops:Array Oper)(rest:List Oper)(k:List Item)(v:AV):M AF:=do
 bM n (some ob)
 let t ←lift (jk fr.nt fr.tmps o.dst v);let t ←jl P SI fr.nt ops rest t
 pure {fr with tmps:=t,todo:=k}
def pO(P:Program)(SI:aO)(fr:AF)(n m:Nat)(es:List<|AV×AV)(exact:Bool)(o:Oper)(ops:Array Oper)(rest:List Oper)(k:List Item):M AF:=do
 bM n none
 bM m (some<|mapOf exact es)
 let t ←lift (jk fr.nt fr.tmps o.dst<|.tuple [.bool false]);let t ←jl P SI fr.nt ops rest t
 pure {fr with tmps:=t,todo:=k}
def vA(fr:AF)(it:Operand):M<|Nat×ae:=do
  match ←lift (aK fr.tmps it) with
  | .ptr (some (n,0))=>do
    let o ←bw n
    pure (n,o)
  |_=>fail
def finish(P:Program)(rs:List ResultVar)(fr:AF)(j:Option Code):M AV:=do
 qc (match j with|none|some .ret=>true|_=>false)
 rP fr.defers
 let vs ←tI P fr.tmps rs
 match vs with
 |[v]=>pure v
 |_=>pure<|.tuple vs
def depth:Nat:=24
def nQ(P:Program)(SI:aO):Nat->AF->M br
 |0,_=>fail
 |f+1,fr=>match DW fr with
  |some (it,o,ops,rest,k)=>(vA fr it).bind fun x=>match x with
   |(n,.iter m es ex [] _)=>(pO P SI fr n m es ex o ops rest k).bind fun fr=>nQ P SI f fr
   |(n,.iter m es ex [y] _)=>(pQ P SI fr n (.iter m es ex []<|some y) o ops rest k<|.tuple [.bool true,y.1,y.2]).bind fun fr=>nQ P SI f fr
   |_=>fail
  |none=>(jg P SI fr).bind fun x=>match x with
   | .go fr=>nQ P SI f fr
   | .leave fr j=>M.pure<|.leave fr j
def Au(P:Program)(SI:aO)(w:Nat)(fr:AF):M br:=match Nat.beq w 1 with
 |true=>nQ P SI 100000 fr
 |false=>qM P SI depth 2 fr
def EL(P:Program)(w f ntmps:Nat)(rs:List ResultVar)(body:Code)(SI:aO)(args:List AV):M AV:=
 aF (Nat.ble (max ntmps args.length) top) <|
 (Au P SI w ⟨f,dZ args,max ntmps args.length,[.code body],[],none⟩).bind fun st=> @br.rec (fun _=>M AV) (fun _=>fail) (fun fr j=>finish P rs fr j) st
def Iq(P:Program)(jZ:FuncId->Nat)(f:FuncId):rk<|aO->List AV->M AV:=
 match P.funcs[f]? with
 |none=>.mk fun _ _=>fail
 |some fn=>match fn.body with
  |none=>.mk fun _ _=>fail
  |some body=>match fn.name == "runtime.NumGoroutine" with
   |true=>.mk fun _ _=>fail
   |false=>.mk<|EL P (jZ f) f fn.ntmps fn.results.toList body
def endRound(l:Nat)(j:Option Code):M AV:=(getLoop l).bind fun o=>match o with
 | .loop _ _ fn t nt ps a b d=>(bM l<|some<|.loop (match j with|none=>.ready|some _=>.done) j fn t nt ps a b d).bind fun _=>M.pure<|.bool j.isNone
 |_=>fail
def BA(P:Program)(SI:aO)(l:Nat)(args:List AV):M AV:=(getLoop l).bind fun o=>match o with
 | .loop _ _ fn t nt ps a b _=>
  aF (and (Nat.beq args.length ps.length)<|ps.all fun p=>Nat.blt p nt) <|
  (qM P SI depth 2 ⟨fn,je ps args t,nt,[.code a,.beginRound,.code b],[],some l⟩).bind fun st=> @br.rec (fun _=>M AV) (fun _=>fail) (fun _ j=>endRound l j) st
 |_=>fail
def Av(P:Program)(jZ:FuncId->Nat)(n:Nat):aO:= @Nat.rec (fun _=>aO) (fun _ _=>fail) (fun _ ih t args=> @Io.rec (fun _=>M AV) (fun f=>(Iq P jZ f).val ih args) (fun l=>BA P ih l args) (fun _ _ _=>fail) t) n
end
end Go.Rn
namespace Go.Rn
variable {s s1:AS} {α β:Type} {n:Nat} {f:α->M β} {o:ae} {b:β} {a:α}
structure Qi (A:Nat->Prop) (m0:Nat) (s t:AS):Prop where
 nx:s.nx=t.nx
 mark:s.mark=t.mark
 low:m0<=s.mark
 is:∀k,k<s.nx->(A k\/m0<=k)->s.h.get k=t.h.get k
structure bE (s:AS):Prop where
 mark:s.mark<=s.nx
 nx:s.nx<=top
structure Mk (s s1:AS) (dr dw:List Nat):Prop where
 rd:s1.rd=dr++s.rd
 wr:s1.wr=dw++s.wr
 nx:s.nx<=s1.nx
 top:s1.nx<=top
 mark:s1.mark=s.mark
 same:∀k,k<s.mark->k ∉ dw->s1.h.get k=s.h.get k
 sub:∀k∈dw,k∈dr
 sK:∀k,s1.nx<=k->k<Rn.top->s1.h.get k=s.h.get k
theorem Mk.cG{dr dw:List Nat}(f:bE s)(d:Mk s s1 dr dw):bE s1:=⟨by rw[d.mark];exact Nat.le_trans f.mark d.nx,d.top⟩
structure Ya (A:Nat->Prop) (m0:Nat) (s1 t t1:AS) (dr dw:List Nat):Prop where
 Cj:Qi A m0 s1 t1
 rd:t1.rd=dr++t.rd
 wr:t1.wr=dw++t.wr
 same:∀k,k<m0->k ∉ dw->t1.h.get k=t.h.get k
 sK:∀k,s1.nx<=k->k<Rn.top->t1.h.get k=t.h.get k
def SH(m:M α):Prop:=∀s v s1,bE s->m s= .ok v s1->∃dr dw,Mk s s1 dr dw/\∀A m0 t,Qi A m0 s t->(∀k∈dr,k<m0->A k)->∃t1,m t= .ok v t1/\Ya A m0 s1 t t1 dr dw
theorem M.bN{m:M α}(h:m s= .ok a s1):(m.bind f) s=f a s1:=by unfold M.bind;rw[h]
theorem M.adi{m:M α}(h:m s= .bad):(m.bind f) s= .bad:=by unfold M.bind;rw[h]
theorem M.aR{m:M α}{s2:AS}(h:(m.bind f) s= .ok b s2):∃a s1,m s= .ok a s1/\f a s1= .ok b s2:=by
 cases e:m s with
 |bad=>rw[M.adi e] at h;cases h
 |ok a s1=>rw[M.bN e] at h;exact⟨a,s1,rfl,h⟩
theorem bind_eq(m:M α)(f:α->M β):(m >>= f)=m.bind f:=rfl
theorem aeI(a:α):(pure a:M α)=M.pure a:=rfl
theorem bW(a:α)(f:α->M β):aC (some a) f=f a:=rfl
theorem dz(m:M β):aF true m=m:=rfl
theorem bu{o:Option α}(h:aC o f s= .ok b s1):∃a,o=some a/\f a s= .ok b s1:=by
 cases o with
 |none=>cases h
 |some a=>exact⟨a,rfl,h⟩
theorem cX{c:Bool}{m:M β}(h:aF c m s= .ok b s1):c=true/\m s= .ok b s1:=by
 cases c with
 |false=>cases h
 |true=>exact⟨rfl,h⟩
theorem bH{b:α}(h:M.pure a s= .ok b s1):b=a/\s1=s:=by cases h;exact⟨rfl,rfl⟩
theorem gT{o:Option α}{b:α}(h:lift o s= .ok b s1):o=some b/\s1=s:=by
 cases o with
 |none=>cases h
 |some a=>cases h;exact⟨rfl,rfl⟩
theorem SH.pure(a:α):SH<|M.pure a:=by intro s v s1 fi h;obtain⟨rfl,rfl⟩:=bH h;exact⟨[],[],⟨rfl,rfl,Nat.le_refl _,fi.nx,rfl,fun _ _ _=>rfl,fun _ h=>h,fun _ _ _=>rfl⟩,fun A m0 t ag _=>⟨t,rfl,ag,rfl,rfl,fun _ _ _=>rfl,fun _ _ _=>rfl⟩⟩
theorem SH.fail{α:Type}:SH (fail:M α):=by intro s v s1 _ h;cases h
theorem SH.aC{α β:Type}{o:Option α}{f:α->M β}(h:∀a,o=some a->SH (f a)):SH<|aC o f:=by
 cases o with
 |none=>exact SH.fail
 |some a=>exact h a rfl
theorem SH.aF{β:Type}{c:Bool}{m:M β}(h:c=true->SH m):SH<|aF c m:=by
 cases c with
 |false=>exact SH.fail
 |true=>exact h rfl
theorem SH.lift{α:Type}(o:Option α):SH<|lift o:=by
 cases o with
 |none=>exact SH.fail
 |some a=>exact SH.pure a
theorem SH.qc(b:Bool):SH<|qc b:=by
 cases b with
 |false=>exact SH.fail
 |true=>exact SH.pure ()
theorem SH.bind{m:M α}(hm:SH m)(hf:∀a,SH<|f a):SH<|m.bind f:=by
 intro s v s2 fi h;obtain⟨a,s1,h1,h2⟩:=M.aR h;obtain⟨dr,dw,d,x⟩:=hm s a s1 fi h1;obtain⟨dr',Ro,d',x'⟩:=hf a s1 v s2 (d.cG fi) h2;refine⟨dr'++dr,Ro++dw,⟨by rw[d'.rd,d.rd,List.append_assoc],by rw[d'.wr,d.wr,List.append_assoc],Nat.le_trans d.nx d'.nx,d'.top,d'.mark.trans d.mark,?_,?_,?_⟩,?_⟩
 ·intro k hk hn;have CZ:k ∉ Ro:=fun e=>hn<|List.mem_append.2<|.inl e;have uQ:k ∉ dw:=fun e=>hn<|List.mem_append.2<|.inr e;exact(d'.same k (by rw[d.mark];exact hk) CZ).trans<|d.same k hk uQ
 ·intro k hk;rcases List.mem_append.1 hk with e|e
  ·exact List.mem_append.2<|.inl<|d'.sub k e
  ·exact List.mem_append.2<|.inr<|d.sub k e
 ·intro k hk ht;exact(d'.sK k hk ht).trans<|d.sK k (Nat.le_trans d'.nx hk) ht
 ·intro A m0 t ag hA;obtain⟨t1,e1,al⟩:=x A m0 t ag fun k hk cF=>hA k (List.mem_append.2<|.inr hk) cF;obtain⟨t2,e2,Ir⟩:=x' A m0 t1 al.Cj fun k hk cF=>hA k (List.mem_append.2<|.inl hk) cF;refine⟨t2,by rw[M.bN e1];exact e2,Ir.Cj,by rw[Ir.rd,al.rd,List.append_assoc],by rw[Ir.wr,al.wr,List.append_assoc],?_,?_⟩
  ·intro k hk hn;have CZ:k ∉ Ro:=fun e=>hn<|List.mem_append.2<|.inl e;have uQ:k ∉ dw:=fun e=>hn<|List.mem_append.2<|.inr e;exact(Ir.same k hk CZ).trans<|al.same k hk uQ
  ·intro k hk ht;exact(Ir.sK k hk ht).trans<|al.sK k (Nat.le_trans d'.nx hk) ht
theorem blt_eq(n m:Nat):(Nat.blt n m=true)=(n<m):=by show(Nat.ble (n+1) m=true)=_;rw[Nat.ble_eq];rfl
theorem zM(a b:α)(n m:Nat): @Bool.rec (fun _=>α) a b (Nat.blt n m)=if n<m then b else a:=by
 rw[OB];by_cases h:n<m
 ·rw[if_pos h,if_pos (by rw[blt_eq];exact h)]
 ·rw[if_neg h,if_neg (by rw[blt_eq];exact h)]
theorem Pc(h:bw n s= .ok o s1):
 n<s.nx/\s.h.get n=some o/\s1=if n<s.mark then{s with rd:=n::s.rd} else s:=by
 obtain⟨hh,nx,mark,rd,wr⟩:=s;cases hb:Nat.blt n nx with
 |false=>
  have:bw n ⟨hh,nx,mark,rd,wr⟩= .bad:=by show @Bool.rec (fun _=>R ae) .bad _ (Nat.blt n nx)=_;rw[hb]
  rw[this] at h;cases h
 |true=>
  cases hg:hh.get n with
  |none=>
   have:bw n ⟨hh,nx,mark,rd,wr⟩= .bad:=by show @Bool.rec (fun _=>R ae) .bad (@Option.rec ae (fun _=>R ae) .bad _<|hh.get n) (Nat.blt n nx)=_;rw[hb,hg]
   rw[this] at h;cases h
  |some o'=>
   have:bw n ⟨hh,nx,mark,rd,wr⟩= @Bool.rec (fun _=>R ae) (.ok o' ⟨hh,nx,mark,rd,wr⟩) (.ok o' ⟨hh,nx,mark,n::rd,wr⟩) (Nat.blt n mark):=by show @Bool.rec (fun _=>R ae) .bad (@Option.rec ae (fun _=>R ae) .bad _<|hh.get n) (Nat.blt n nx)=_;rw[hb,hg]
   rw[this] at h;have cF:n<nx:=by rw[←blt_eq];exact hb
   cases hm:Nat.blt n mark with
   |false=>
    rw[hm] at h;cases h;have:¬n<mark:=by rw[←blt_eq,hm];simp
    exact⟨cF,by first|exact hg|rfl,by simp[this]⟩
   |true=>
    rw[hm] at h;cases h;have:n<mark:=by rw[←blt_eq];exact hm
    exact⟨cF,by first|exact hg|rfl,by simp[this]⟩
theorem WK(h1:n<s.nx)(h2:s.h.get n=some o):
 bw n s= .ok o (if n<s.mark then{s with rd:=n::s.rd} else s):=by
 obtain⟨hh,nx,mark,rd,wr⟩:=s;have hb:Nat.blt n nx=true:=by rw[blt_eq];exact h1
 have hg:hh.get n=some o:=h2;show @Bool.rec (fun _=>R ae) .bad (@Option.rec ae (fun _=>R ae) .bad (fun o=> @Bool.rec (fun _=>R ae) (.ok o ⟨hh,nx,mark,rd,wr⟩) (.ok o ⟨hh,nx,mark,n::rd,wr⟩)<|Nat.blt n mark)<|hh.get n) (Nat.blt n nx)=_;rw[hb,hg];show @Bool.rec (fun _=>R ae) _ _ (Nat.blt n mark)=_;rw[zM];by_cases e:n<mark<;>simp[e]
theorem VF{o:Option ae}{u:Unit}(h:bM n o s= .ok u s1):
 n<s.nx/\n<top/\(∃p,s.h.get n=some p/\p.du=false)/\s1=if n<s.mark then{s with h:=s.h.put n o,rd:=n::s.rd,wr:=n::s.wr} else{s with h:=s.h.put n o}:=by
 obtain⟨hh,nx,mark,rd,wr⟩:=s;have e:bM n o ⟨hh,nx,mark,rd,wr⟩= @Bool.rec (fun _=>R Unit) .bad
  (@Option.rec ae (fun _=>R Unit) .bad
   (fun p=> @Bool.rec (fun _=>R Unit)
    (@Bool.rec (fun _=>R Unit) (.ok () ⟨hh.put n o,nx,mark,rd,wr⟩) (.ok () ⟨hh.put n o,nx,mark,n::rd,n::wr⟩)<|Nat.blt n mark)
    .bad p.du)
   (hh.get n))
  (and (Nat.blt n nx)<|Nat.blt n top):=rfl
 rw[e] at h;cases hb:and (Nat.blt n nx) (Nat.blt n top) with
 |false=>rw[hb] at h;cases h
 |true=>
  rw[hb] at h;have iO:=Bool.and_eq_true_iff.1 hb;rw[blt_eq,blt_eq] at iO;cases hg:hh.get n with
  |none=>rw[hg] at h;cases h
  |some p=>
   rw[hg] at h;cases hr:p.du with
   |true=>
    have h': @Bool.rec (fun _=>R Unit)
     (@Bool.rec (fun _=>R Unit) (.ok () ⟨hh.put n o,nx,mark,rd,wr⟩) (.ok () ⟨hh.put n o,nx,mark,n::rd,n::wr⟩)<|Nat.blt n mark)
     .bad p.du= .ok u s1:=h
    rw[hr] at h';cases h'
   |false=>
    have h': @Bool.rec (fun _=>R Unit)
     (@Bool.rec (fun _=>R Unit) (.ok () ⟨hh.put n o,nx,mark,rd,wr⟩) (.ok () ⟨hh.put n o,nx,mark,n::rd,n::wr⟩)<|Nat.blt n mark)
     .bad p.du= .ok u s1:=h
    rw[hr] at h';refine⟨iO.1,iO.2,⟨p,by first|exact hg|rfl,hr⟩,?_⟩;have uR: @Bool.rec (fun _=>R Unit) (.ok () ⟨hh.put n o,nx,mark,rd,wr⟩) (.ok () ⟨hh.put n o,nx,mark,n::rd,n::wr⟩) (Nat.blt n mark)= .ok u s1:=h';rw[zM] at uR;by_cases e:n<mark
    ·rw[if_pos e] at uR;injection uR with _ h3;simp[e, ←h3]
    ·rw[if_neg e] at uR;injection uR with _ h3;simp[e, ←h3]
theorem PI{o:Option ae}{p:ae}(h1:n<s.nx)(h2:n<top)(h3:s.h.get n=some p)(h4:p.du=false):
 bM n o s= .ok () (if n<s.mark then{s with h:=s.h.put n o,rd:=n::s.rd,wr:=n::s.wr} else{s with h:=s.h.put n o}):=by
 obtain⟨hh,nx,mark,rd,wr⟩:=s;have e:bM n o ⟨hh,nx,mark,rd,wr⟩= @Bool.rec (fun _=>R Unit) .bad
  (@Option.rec ae (fun _=>R Unit) .bad
   (fun p=> @Bool.rec (fun _=>R Unit)
    (@Bool.rec (fun _=>R Unit) (.ok () ⟨hh.put n o,nx,mark,rd,wr⟩) (.ok () ⟨hh.put n o,nx,mark,n::rd,n::wr⟩)<|Nat.blt n mark)
    .bad p.du)
   (hh.get n))
  (and (Nat.blt n nx)<|Nat.blt n top):=rfl
 have hb:and (Nat.blt n nx) (Nat.blt n top)=true:=Bool.and_eq_true_iff.2 ⟨by rw[blt_eq];exact h1,by rw[blt_eq];exact h2⟩;have hg:hh.get n=some p:=h3;rw[e,hb,hg];show @Bool.rec (fun _=>R Unit) (@Bool.rec (fun _=>R Unit) (.ok () ⟨hh.put n o,nx,mark,rd,wr⟩) (.ok () ⟨hh.put n o,nx,mark,n::rd,n::wr⟩)<|Nat.blt n mark) .bad p.du=_;rw[h4];show @Bool.rec (fun _=>R Unit) (.ok () ⟨hh.put n o,nx,mark,rd,wr⟩) (.ok () ⟨hh.put n o,nx,mark,n::rd,n::wr⟩) (Nat.blt n mark)=_;rw[zM];by_cases e:n<mark<;>simp[e]
theorem vw(h:gC o s= .ok n s1):s.nx<top/\n=s.nx/\s1={s with h:=s.h.put s.nx<|some o,nx:=s.nx+1}:=by
 obtain⟨hh,nx,mark,rd,wr⟩:=s;have e:gC o ⟨hh,nx,mark,rd,wr⟩= @Bool.rec (fun _=>R Nat) .bad (forced nx fun m=>.ok m ⟨hh.put m<|some o,m+1,mark,rd,wr⟩) (Nat.blt nx top):=rfl;rw[e,zD] at h;cases hb:Nat.blt nx top with
 |false=>rw[hb] at h;cases h
 |true=>rw[hb] at h;cases h;exact⟨by rw[←blt_eq];exact hb,rfl,rfl⟩
theorem VG(h:s.nx<top):gC o s= .ok s.nx {s with h:=s.h.put s.nx<|some o,nx:=s.nx+1}:=by
 obtain⟨hh,nx,mark,rd,wr⟩:=s;have e:gC o ⟨hh,nx,mark,rd,wr⟩= @Bool.rec (fun _=>R Nat) .bad (forced nx fun m=>.ok m ⟨hh.put m<|some o,m+1,mark,rd,wr⟩) (Nat.blt nx top):=rfl;have hb:Nat.blt nx top=true:=by rw[blt_eq];exact h
 rw[e,zD,hb]
theorem SH.bw(n:Nat):SH<|bw n:=by
 intro s v s1 fi h;obtain⟨h1,h2,rfl⟩:=Pc h;by_cases e:n<s.mark
 ·rw[if_pos e];refine⟨[n],[],⟨rfl,rfl,Nat.le_refl _,fi.nx,rfl,fun _ _ _=>rfl,fun _ h=>(by cases h),fun _ _ _=>rfl⟩,fun A m0 t ag hA=>?_⟩;have hq:A n\/m0<=n:=by
   by_cases q:n<m0
   ·exact .inl<|hA n jI q
   ·exact .inr ak
  have hg:=ag.is n h1 hq;have hr:=WK (o:=v) (s:=t) (n:=n) FJ FK;rw[←ag.mark,if_pos e] at hr;exact⟨_,hr,⟨ag.nx,by first|exact ag.mark|rfl,ag.low,ag.is⟩,rfl,rfl,fun _ _ _=>rfl,fun _ _ _=>rfl⟩
 ·rw[if_neg e];refine⟨[],[],⟨rfl,rfl,Nat.le_refl _,fi.nx,rfl,fun _ _ _=>rfl,fun _ h=>(by cases h),fun _ _ _=>rfl⟩,fun A m0 t ag hA=>?_⟩;have hg:=ag.is n h1<|.inr<|Nat.le_trans ag.low ak;have hr:=WK (o:=v) (s:=t) (n:=n) FJ FK;rw[←ag.mark,if_neg e] at hr;exact⟨_,hr,ag,rfl,rfl,fun _ _ _=>rfl,fun _ _ _=>rfl⟩
theorem SH.bM(n:Nat)(o:Option ae):SH<|bM n o:=by
 intro s v s1 fi h;obtain⟨h1,ht,⟨p,h2,h3⟩,rfl⟩:=VF h;by_cases e:n<s.mark
 ·rw[if_pos e];refine⟨[n],[n],⟨rfl,rfl,Nat.le_refl _,fi.nx,rfl,fun k hk hn=>?_,fun _ h=>h,fun k hk gw=>?_⟩,fun A m0 t ag hA=>?_⟩
  ·show(s.h.put n o).get k=_;rw[Tr.dt _ _ _ _ ht (by have:=fi.mark;have:=fi.nx;omega),if_neg<|by simpa using hn]
  ·show(s.h.put n o).get k=_;have:s.nx<=k:=hk;rw[Tr.dt _ _ _ _ ht gw,if_neg ak]
  ·have hq:A n\/m0<=n:=by
    by_cases q:n<m0
    ·exact .inl<|hA n jI q
    ·exact .inr ak
   have hg:=ag.is n h1 hq;have hr:=PI (o:=o) (s:=t) (n:=n) (p:=p) FJ ht FK h3;rw[←ag.mark,if_pos e] at hr;refine⟨_,hr,⟨ag.nx,by first|exact ag.mark|rfl,ag.low,fun k hk hq=>?_⟩,rfl,rfl,fun k hk hn=>?_,fun k hk gw=>?_⟩
   ·show(s.h.put n o).get k=(t.h.put n o).get k;have rp:k<s.nx:=hk;have:=fi.nx;rw[Tr.dt _ _ _ _ ht ak,Tr.dt _ _ _ _ ht ak];by_cases q:k=n
    ·simp[q]
    ·rw[if_neg q,if_neg q];exact ag.is k hk hq
   ·show(t.h.put n o).get k=_;have:=fi.mark;have:=fi.nx;have:=ag.low;rw[Tr.dt _ _ _ _ ht ak,if_neg<|by simpa using hn]
   ·show(t.h.put n o).get k=_;have:s.nx<=k:=hk;rw[Tr.dt _ _ _ _ ht gw,if_neg ak]
 ·rw[if_neg e];refine⟨[],[],⟨rfl,rfl,Nat.le_refl _,fi.nx,rfl,fun k hk hn=>?_,fun _ h=>h,fun k hk gw=>?_⟩,fun A m0 t ag hA=>?_⟩
  ·show(s.h.put n o).get k=_;have:=fi.mark;have:=fi.nx;rw[Tr.dt _ _ _ _ ht ak,if_neg ak]
  ·show(s.h.put n o).get k=_;have:s.nx<=k:=hk;rw[Tr.dt _ _ _ _ ht gw,if_neg ak]
  ·have hg:=ag.is n h1<|.inr<|Nat.le_trans ag.low ak;have hr:=PI (o:=o) (s:=t) (n:=n) (p:=p) FJ ht FK h3;rw[←ag.mark,if_neg e] at hr;refine⟨_,hr,⟨ag.nx,by first|exact ag.mark|rfl,ag.low,fun k hk hq=>?_⟩,rfl,rfl,fun k hk hn=>?_,fun k hk gw=>?_⟩
   ·show(s.h.put n o).get k=(t.h.put n o).get k;have rp:k<s.nx:=hk;have:=fi.nx;rw[Tr.dt _ _ _ _ ht ak,Tr.dt _ _ _ _ ht ak];by_cases q:k=n
    ·simp[q]
    ·rw[if_neg q,if_neg q];exact ag.is k hk hq
   ·show(t.h.put n o).get k=_;have:=fi.mark;have:=fi.nx;have:=ag.low;rw[Tr.dt _ _ _ _ ht ak,if_neg ak]
   ·show(t.h.put n o).get k=_;have:s.nx<=k:=hk;rw[Tr.dt _ _ _ _ ht gw,if_neg ak]
theorem SH.gC(o:ae):SH<|gC o:=by
 intro s v s1 fi h;obtain⟨ht,rfl,rfl⟩:=vw h;refine⟨[],[],⟨rfl,rfl,Nat.le_succ _,ht,rfl,fun k hk hn=>?_,fun _ h=>h,fun k hk gw=>?_⟩,fun A m0 t ag hA=>?_⟩
 ·show(s.h.put s.nx<|some o).get k=_;have:=fi.mark;have:=fi.nx;rw[Tr.dt _ _ _ _ ht ak,if_neg ak]
 ·show(s.h.put s.nx<|some o).get k=_;have:s.nx+1<=k:=hk;rw[Tr.dt _ _ _ _ ht gw,if_neg ak]
 ·have hr:=VG (o:=o) (s:=t) (by rw[←ag.nx];exact ht);rw[←ag.nx] at hr;refine⟨_,hr,⟨rfl,ag.mark,ag.low,fun k hk hq=>?_⟩,rfl,rfl,fun k hk hn=>?_,fun k hk gw=>?_⟩
  ·show(s.h.put s.nx<|some o).get k=(t.h.put s.nx<|some o).get k;have rp:k<s.nx+1:=hk;rw[Tr.dt _ _ _ _ ht ak,Tr.dt _ _ _ _ ht ak];by_cases q:k=s.nx
   ·simp[q]
   ·rw[if_neg q,if_neg q];exact ag.is k ak hq
  ·show(t.h.put s.nx<|some o).get k=_;have:=fi.mark;have:=fi.nx;have:=ag.low;rw[Tr.dt _ _ _ _ ht ak,if_neg ak]
  ·show(t.h.put s.nx<|some o).get k=_;have:s.nx+1<=k:=hk;rw[Tr.dt _ _ _ _ ht gw,if_neg ak]
end Go.Rn
namespace Go.Rn
theorem SH.jd(n off k:Nat):SH<|jd n off k:=by
 cases k with
 |zero=>exact SH.pure _
 |succ k=>
  unfold Rn.jd
  repeat' (first
  |exact SH.pure _|exact SH.fail|exact SH.lift _|exact SH.bw _
  |refine SH.aC (fun _ _=>?_)|refine SH.aF (fun _=>?_)|refine SH.bind ?_ (fun _=>?_)
  |split)
theorem SH.rL(n off:Nat)(l:List AV):SH<|rL n off l:=by
 unfold Rn.rL
 repeat' (first
  |exact SH.pure _|exact SH.fail|exact SH.bw _|exact SH.bM _ _
  |exact SH.fail
  |refine SH.aC (fun _ _=>?_)|refine SH.aF (fun _=>?_)|refine SH.bind ?_ (fun _=>?_)
  |split)
theorem SH.newRow(l:List AV):SH<|newRow l:=by
 unfold Rn.newRow
 repeat' (first
  |exact SH.pure _|exact SH.fail|exact SH.gC _
  |exact SH.fail
  |refine SH.aC (fun _ _=>?_)|refine SH.aF (fun _=>?_)|refine SH.bind ?_ (fun _=>?_)
  |split)
theorem SH.loadVar(P:Program)(t:TypeId)(n off:Nat):SH<|loadVar P t n off:=by
 unfold Rn.loadVar
 repeat' (first
  |exact SH.pure _|exact SH.fail|exact SH.lift _
  |exact SH.fail|exact SH.jd _ _ _
  |refine SH.aC (fun _ _=>?_)|refine SH.aF (fun _=>?_)|refine SH.bind ?_ (fun _=>?_)
  |split)
theorem SH.xL(P:Program)(t:TypeId)(n off:Nat):SH<|xL P t n off:=by
 unfold Rn.xL
 repeat' (first
  |exact SH.pure _|exact SH.fail|exact SH.lift _|exact SH.bw _
  |exact SH.fail
  |refine SH.aC (fun _ _=>?_)|refine SH.aF (fun _=>?_)|refine SH.bind ?_ (fun _=>?_)
  |split)
theorem SH.vD(P:Program)(t:TypeId){SI:aO}(bI:∀t a,SH<|SI t a)(n o:Nat):SH<|vD P t SI n o:=by
 unfold Rn.vD
 repeat' (first
  |exact SH.pure _|exact SH.fail|exact SH.lift _
  |exact bI _ _
  |refine SH.aC (fun _ _=>?_)|refine SH.aF (fun _=>?_)|refine SH.bind ?_ (fun _=>?_)
  |split)
theorem SH.loadAt(P:Program)(t:TypeId){SI:aO}(bI:∀t a,SH<|SI t a)(a:AV):SH<|loadAt P t SI a:=by
 unfold Rn.loadAt
 repeat' (first
  |exact SH.pure _|exact SH.fail
  |exact bI _ _|exact SH.loadVar _ _ _ _|exact SH.xL _ _ _ _|exact SH.vD _ _ bI _ _
  |refine SH.aC (fun _ _=>?_)|refine SH.aF (fun _=>?_)|refine SH.bind ?_ (fun _=>?_)
  |split)
theorem SH.storeVar(P:Program)(t:TypeId)(n off:Nat)(v:AV):SH<|storeVar P t n off v:=by
 unfold Rn.storeVar
 repeat' (first
  |exact SH.pure _|exact SH.fail
  |exact SH.fail|exact SH.rL _ _ _
  |refine SH.aC (fun _ _=>?_)|refine SH.aF (fun _=>?_)|refine SH.bind ?_ (fun _=>?_)
  |split)
theorem SH.buildSlice(P:Program)(t:TypeId)(len:Nat)(parts:List<|Nat×AV):SH<|buildSlice P t len parts:=by
 unfold Rn.buildSlice
 repeat' (first
  |exact SH.pure _|exact SH.fail|exact SH.lift _|exact SH.qc _
  |exact SH.fail|exact SH.newRow _
  |refine SH.aC (fun _ _=>?_)|refine SH.aF (fun _=>?_)|refine SH.bind ?_ (fun _=>?_)
  |split)
theorem SH.makeSlice(P:Program)(t:TypeId)(len cap:AV):SH<|makeSlice P t len cap:=by
 unfold Rn.makeSlice
 repeat' (first
  |exact SH.pure _|exact SH.fail|exact SH.gC _
  |exact SH.fail
  |refine SH.aC (fun _ _=>?_)|refine SH.aF (fun _=>?_)|refine SH.bind ?_ (fun _=>?_)
  |split)
theorem SH.firstCells(size n:Nat)(v:AV):SH<|firstCells size n v:=by
 unfold Rn.firstCells
 repeat' (first
  |exact SH.pure _|exact SH.fail
  |exact SH.fail|exact SH.jd _ _ _
  |refine SH.aC (fun _ _=>?_)|refine SH.aF (fun _=>?_)|refine SH.bind ?_ (fun _=>?_)
  |split)
theorem SH.grown(a b c:Nat)(l m:List AV):SH<|grown a b c l m:=by
 unfold Rn.grown
 repeat' (first
  |exact SH.pure _|exact SH.fail
  |exact SH.fail|exact SH.newRow _
  |refine SH.aC (fun _ _=>?_)|refine SH.aF (fun _=>?_)|refine SH.bind ?_ (fun _=>?_)
  |split)
theorem SH.xz(n off:Nat)(l:List AV):SH<|xz n off l:=by
 unfold Rn.xz
 repeat' (first
  |exact SH.pure _|exact SH.fail|exact SH.bw _|exact SH.bM _ _
  |exact SH.fail
  |refine SH.aC (fun _ _=>?_)|refine SH.aF (fun _=>?_)|refine SH.bind ?_ (fun _=>?_)
  |split)
theorem SH.rM(size bytes:Nat)(base:Option<|Nat×Nat)(len:Nat)(cap:cM)(n:Nat)(new:List AV):SH<|rM size bytes base len cap n new:=by
 unfold Rn.rM
 repeat' (first
  |exact SH.pure _|exact SH.fail|exact SH.bw _|exact SH.bM _ _
  |exact SH.fail|exact SH.jd _ _ _|exact SH.rL _ _ _|exact SH.firstCells _ _ _|exact SH.grown _ _ _ _ _|exact SH.xz _ _ _
  |refine SH.aC (fun _ _=>?_)|refine SH.aF (fun _=>?_)|refine SH.bind ?_ (fun _=>?_)
  |split)
theorem SH.pL(P:Program)(ts:Array TypeId)(s x:AV):SH<|pL P ts s x:=by
 unfold Rn.pL
 repeat' (first
  |exact SH.pure _|exact SH.fail
  |exact SH.fail|exact SH.firstCells _ _ _|exact SH.rM _ _ _ _ _ _ _
  |refine SH.aC (fun _ _=>?_)|refine SH.aF (fun _=>?_)|refine SH.bind ?_ (fun _=>?_)
  |split)
theorem SH.zR(P:Program)(ts:Array TypeId)(s x:AV):SH<|zR P ts s x:=by
 unfold Rn.zR
 repeat' (first
  |exact SH.pure _|exact SH.fail
  |exact SH.fail|exact SH.rL _ _ _|exact SH.firstCells _ _ _
  |refine SH.aC (fun _ _=>?_)|refine SH.aF (fun _=>?_)|refine SH.bind ?_ (fun _=>?_)
  |split)
theorem SH.zS(P:Program)(k:TypeId)(a x:AV):SH<|zS P k a x:=by
 unfold Rn.zS
 repeat' (first
  |exact SH.pure _|exact SH.fail|exact SH.bw _
  |exact SH.fail
  |refine SH.aC (fun _ _=>?_)|refine SH.aF (fun _=>?_)|refine SH.bind ?_ (fun _=>?_)
  |split)
theorem SH.EH(r:Nat)(a b:AV)(l:List<|AV×AV)(c:Nat)(f:Option<|Nat×AV):SH<|EH r a b l c f:=by
 unfold Rn.EH
 repeat' (first
  |exact SH.pure _|exact SH.fail|exact SH.bM _ _
  |exact SH.fail
  |refine SH.aC (fun _ _=>?_)|refine SH.aF (fun _=>?_)|refine SH.bind ?_ (fun _=>?_)
  |split)
theorem SH.Bv(r:Nat)(a b:AV)(l:List<|AV×AV)(f:Option<|Nat×AV):SH<|Bv r a b l f:=by
 unfold Rn.Bv
 repeat' (first
  |exact SH.pure _|exact SH.fail|exact SH.bM _ _
  |exact SH.fail
  |refine SH.aC (fun _ _=>?_)|refine SH.aF (fun _=>?_)|refine SH.bind ?_ (fun _=>?_)
  |split)
theorem SH.zL(P:Program)(t:TypeId)(x k:AV)(ok:Bool):SH<|zL P t x k ok:=by
 unfold Rn.zL
 repeat' (first
  |exact SH.pure _|exact SH.fail
  |exact SH.fail|exact SH.zS _ _ _ _
  |refine SH.aC (fun _ _=>?_)|refine SH.aF (fun _=>?_)|refine SH.bind ?_ (fun _=>?_)
  |split)
theorem SH.xW(P:Program)(t:TypeId)(m k v:AV):SH<|xW P t m k v:=by
 unfold Rn.xW
 repeat' (first
  |exact SH.pure _|exact SH.fail|exact SH.bw _
  |exact SH.fail|exact SH.EH _ _ _ _ _ _|exact SH.Bv _ _ _ _ _
  |refine SH.aC (fun _ _=>?_)|refine SH.aF (fun _=>?_)|refine SH.bind ?_ (fun _=>?_)
  |split)
theorem SH.As(P:Program)(ts:Array TypeId)(x:AV):SH<|As P ts x:=by
 unfold Rn.As
 repeat' (first
  |exact SH.pure _|exact SH.fail|exact SH.lift _
  |exact SH.fail|exact SH.WJ _
  |refine SH.aC (fun _ _=>?_)|refine SH.aF (fun _=>?_)|refine SH.bind ?_ (fun _=>?_)
  |split)
theorem SH.zE(P:Program)(b:Builtin)(ts:Array TypeId)(l:List AV):SH<|zE P b ts l:=by
 unfold Rn.zE
 repeat' (first
  |exact SH.pure _|exact SH.fail|exact SH.lift _
  |exact SH.fail|exact SH.pL _ _ _ _|exact SH.zR _ _ _ _|exact SH.As _ _ _|exact SH.agp _ _ _
  |refine SH.aC (fun _ _=>?_)|refine SH.aF (fun _=>?_)|refine SH.bind ?_ (fun _=>?_)
  |split)
theorem SH.BH(P:Program)(a:TypeId)(x:AV):SH<|BH P a x:=by
 unfold Rn.BH
 repeat' (first
  |exact SH.pure _|exact SH.fail|exact SH.bw _|exact SH.bM _ _|exact SH.gC _
  |exact SH.fail
  |refine SH.aC (fun _ _=>?_)|refine SH.aF (fun _=>?_)|refine SH.bind ?_ (fun _=>?_)
  |split)
theorem SH.D7(x:AV):SH<|D7 x:=by
 unfold Rn.D7
 repeat' (first
  |exact SH.pure _|exact SH.fail|exact SH.bw _
  |exact SH.fail
  |refine SH.aC (fun _ _=>?_)|refine SH.aF (fun _=>?_)|refine SH.bind ?_ (fun _=>?_)
  |split)
theorem SH.tK{SI:aO}(bI:∀t a,SH<|SI t a)(n o k:Nat):SH<|tK SI n o k:=by
 unfold Rn.tK
 repeat' (first
  |exact SH.pure _|exact SH.fail
  |exact bI _ _
  |refine SH.aC (fun _ _=>?_)|refine SH.aF (fun _=>?_)|refine SH.bind ?_ (fun _=>?_)
  |split)
theorem SH.nr{SI:aO}(bI:∀t a,SH<|SI t a)(f:AV)(l:List AV):SH<|nr SI f l:=by
 unfold Rn.nr
 repeat' (first
  |exact SH.pure _|exact SH.fail
  |exact bI _ _
  |refine SH.aC (fun _ _=>?_)|refine SH.aF (fun _=>?_)|refine SH.bind ?_ (fun _=>?_)
  |split)
theorem SH.Ip(P:Program){SI:aO}(bI:∀t a,SH<|SI t a)(t:Tr AV)(op:Op):SH<|Ip P SI t op:=by unfold Rn.Ip Rn.dO;split<;>simp only[rk.val]<;>(first|unfold Rn.vX|unfold Rn.Ch|unfold Rn.Ks|unfold Rn.Cw|unfold Rn.BV|unfold Rn.Bk|unfold Rn.uk|unfold Rn.xX|unfold Rn.Bp|unfold Rn.uA|unfold Rn.CY|unfold Rn.Bw|unfold Rn.DF|unfold Rn.Bq|unfold Rn.Bx|unfold Rn.Bm|unfold Rn.qI|unfold Rn.Bn|unfold Rn.BW|unfold Rn.qC|unfold Rn.BX|unfold Rn.xM|unfold Rn.qF|unfold Rn.D6|unfold Rn.BY|unfold Rn.BZ|unfold Rn.DV|unfold Rn.By|unfold Rn.oz|unfold Rn.uo|unfold Rn.Pb|unfold Rn.Xs)<;>(repeat' (first|exact SH.pure _|exact SH.fail|exact SH.lift _|exact SH.qc _|exact SH.bw _|exact SH.bM _ _|exact SH.gC _|exact bI _ _|exact SH.jd _ _ _|exact SH.rL _ _ _|exact SH.newRow _|exact SH.loadVar _ _ _ _|exact SH.xL _ _ _ _|exact SH.loadAt _ _ bI _|exact SH.storeVar _ _ _ _ _|exact SH.buildSlice _ _ _ _|exact SH.makeSlice _ _ _ _|exact SH.firstCells _ _ _|exact SH.grown _ _ _ _ _|exact SH.xz _ _ _|exact SH.rM _ _ _ _ _ _ _|exact SH.pL _ _ _ _|exact SH.zR _ _ _ _|exact SH.WJ _|exact SH.zS _ _ _ _|exact SH.EH _ _ _ _ _ _|exact SH.Bv _ _ _ _ _|exact SH.zL _ _ _ _ _|exact SH.xW _ _ _ _ _|exact SH.As _ _ _|exact SH.agp _ _ _|exact SH.zE _ _ _ _|exact SH.toText _ _ _ _ _|exact SH.zeroOf _ _|exact SH.toZero _ _ _ _ _|exact SH.BH _ _ _|exact SH.D7 _|exact SH.aeG _|exact SH.nr bI _ _|exact SH.tK bI _ _ _|refine SH.aC (fun _ _=>?_)|refine SH.aF (fun _=>?_)|refine SH.bind ?_ (fun _=>?_)|split))
end Go.Rn
namespace Go.Rn
variable {α:Type} {s:AS} {i:Nat}
theorem xA{k m:Nat}{l:List Nat}:k∈below m l↔k∈l/\k<m:=by
 have h1:∀l:List Nat,k∈vy m l↔k∈l/\k<m:=by
  intro l;induction l with
  |nil=>simp[vy]
  |cons x l ih=>
   have e:vy m (x::l)=if m<=x then vy m l else x::vy m l:=by
    show @Bool.rec (fun _=>List Nat) (vy m l) (x::vy m l) (not<|Nat.ble m x)=_;by_cases h:m<=x
    ·have:Nat.ble m x=true:=by rw[Nat.ble_eq];exact h
     rw[this,if_pos h];rfl
    ·have:Nat.ble m x=false:=by
      cases q:Nat.ble m x with
      |false=>rfl
      |true=>rw[Nat.ble_eq] at q;exact absurd q h
     rw[this,if_neg h];rfl
   rw[e];by_cases h:m<=x
   ·rw[if_pos h,ih];constructor
    ·rintro ⟨a,b⟩;exact⟨List.mem_cons_of_mem _ a,b⟩
    ·rintro ⟨a,b⟩;rcases List.mem_cons.1 a with rfl|a
     ·omega
     ·exact⟨a,b⟩
   ·rw[if_neg h,List.mem_cons,ih,List.mem_cons];constructor
    ·rintro (rfl|⟨a,b⟩)
     ·exact⟨.inl rfl,by omega⟩
     ·exact⟨.inr a,b⟩
    ·rintro ⟨rfl|a,b⟩
     ·exact .inl rfl
     ·exact .inr ⟨a,b⟩
 have e:below m l=if m=0 then[] else vy m l:=by
  show @Bool.rec (fun _=>List Nat) (vy m l) [] (Nat.beq m 0)=_;rw[OB];by_cases h:m=0
  ·rw[if_pos h,if_pos (by rw[beq_eq];exact h)]
  ·rw[if_neg h,if_neg (by rw[beq_eq];exact h)]
 rw[e];by_cases h:m=0
 ·rw[if_pos h];subst h;simp
 ·rw[if_neg h,h1]
theorem TW{m:M α}{s2:AS}{x:α×dC}(h:alone i m s= .ok x s2):
 ∃a s1,m ⟨s.h,s.nx,s.nx,[],[]⟩= .ok a s1/\x=(a,⟨i,below s.nx s1.rd,below s.nx s1.wr,s.nx,s1.nx⟩)/\s2=⟨s1.h,s1.nx,s.mark,below s.mark s1.rd++s.rd,below s.mark s1.wr++s.wr⟩:=by
 obtain⟨hh,nx,mark,rd,wr⟩:=s;have e:alone i m ⟨hh,nx,mark,rd,wr⟩=forced nx fun lo=>
  @R.rec α (fun _=>R<|α×dC) .bad (fun a s1=>
   @AS.rec (fun _=>R<|α×dC) (fun h1 qp _ gu oh=>forced qp fun hi=>.ok (a,⟨i,below lo gu,below lo oh,lo,hi⟩) ⟨h1,hi,mark,below mark gu++rd,below mark oh++wr⟩) s1)
   (m ⟨hh,lo,lo,[],[]⟩):=rfl
 rw[e,zD] at h;cases hm:m ⟨hh,nx,nx,[],[]⟩ with
 |bad=>rw[hm] at h;cases h
 |ok a s1=>rw[hm] at h;obtain⟨h1,qp,Qj,gu,oh⟩:=s1;have h':forced qp (fun hi=>R.ok (a,(⟨i,below nx gu,below nx oh,nx,hi⟩:dC)) (⟨h1,hi,mark,below mark gu++rd,below mark oh++wr⟩:AS))= .ok x s2:=h;rw[zD] at h';cases h';exact⟨a,⟨h1,qp,Qj,gu,oh⟩,by first|exact hm|rfl,rfl,rfl⟩
theorem adj{m:M α}{s1:AS}{a:α}(h:m ⟨s.h,s.nx,s.nx,[],[]⟩= .ok a s1):
 alone i m s= .ok (a,⟨i,below s.nx s1.rd,below s.nx s1.wr,s.nx,s1.nx⟩) ⟨s1.h,s1.nx,s.mark,below s.mark s1.rd++s.rd,below s.mark s1.wr++s.wr⟩:=by
 obtain⟨hh,nx,mark,rd,wr⟩:=s;have e:alone i m ⟨hh,nx,mark,rd,wr⟩=forced nx fun lo=>
  @R.rec α (fun _=>R<|α×dC) .bad (fun a s1=>
   @AS.rec (fun _=>R<|α×dC) (fun h1 qp _ gu oh=>forced qp fun hi=>.ok (a,⟨i,below lo gu,below lo oh,lo,hi⟩) ⟨h1,hi,mark,below mark gu++rd,below mark oh++wr⟩) s1)
   (m ⟨hh,lo,lo,[],[]⟩):=rfl
 rw[e,zD,h];obtain⟨h1,qp,Qj,gu,oh⟩:=s1;show forced qp (fun hi=>R.ok (a,(⟨i,below nx gu,below nx oh,nx,hi⟩:dC)) (⟨h1,hi,mark,below mark gu++rd,below mark oh++wr⟩:AS))=_;rw[zD]
theorem SH.alone{α:Type}(i:Nat){m:M α}(hm:SH m):SH<|alone i m:=by
 intro s v s2 fi h;obtain⟨a,s1,h1,rfl,rfl⟩:=TW h;obtain⟨dr,dw,d,x⟩:=hm ⟨s.h,s.nx,s.nx,[],[]⟩ a s1 ⟨Nat.le_refl _,fi.nx⟩ h1;have er:s1.rd=dr:=by have:=d.rd;simpa using this
 have ew:s1.wr=dw:=by have:=d.wr;simpa using this
 refine⟨below s.mark dr,below s.mark dw,⟨by show below s.mark s1.rd++s.rd=_;rw[er],by show below s.mark s1.wr++s.wr=_;rw[ew],d.nx,d.top,rfl,?_,?_,d.sK⟩,?_⟩
 ·intro k hk hn;exact d.same k (Nat.lt_of_lt_of_le hk fi.mark) fun e=>hn<|xA.2 ⟨e,hk⟩
 ·intro k hk;obtain⟨a,b⟩:=xA.1 hk;exact xA.2 ⟨d.sub k a,b⟩
 ·intro A m0 t ag hA;obtain⟨t1,e1,al⟩:=x A m0 ⟨t.h,t.nx,t.nx,[],[]⟩ ⟨ag.nx,ag.nx,Nat.le_trans ag.low fi.mark,ag.is⟩ fun k hk cF=>hA k (xA.2 ⟨hk,Nat.lt_of_lt_of_le cF ag.low⟩) cF;have er':t1.rd=dr:=by have:=al.rd;simpa using this
  have ew':t1.wr=dw:=by have:=al.wr;simpa using this
  have hr:=adj (i:=i) (s:=t) e1;rw[er',ew', ←ag.nx, ←ag.mark, ←al.Cj.nx] at hr;rw[er,ew];refine⟨_,hr,⟨rfl,rfl,ag.low,al.Cj.is⟩,rfl,rfl,fun k hk hn=>al.same k hk fun e=>hn<|xA.2 ⟨e,Nat.lt_of_lt_of_le hk ag.low⟩,al.sK⟩
theorem SH.gP(P:Program){SI:aO}(bI:∀t a,SH<|SI t a)(nt:Nat)(ops:Array Oper)(o:Oper)(t:Tr AV):SH<|gP P SI nt ops o t:=by
 have hv:∀t op,SH<|(dO P op).val SI t:=fun t op=>SH.Ip P bI t op;unfold Rn.gP Ci;split<;>simp only[rk.val]
 ·unfold sI;refine SH.bind (hv _ _) fun _=>SH.lift _
 ·unfold uq;rename_i g _;refine SH.aF fun _=>?_;cases qG ops g t
  ·exact SH.lift _
  ·exact SH.bind (hv _ _) fun _=>SH.lift _
theorem SH.jl(P:Program){SI:aO}(bI:∀t a,SH<|SI t a)(nt:Nat)(ops:Array Oper):∀(l:List Oper) (t:Tr AV),SH (jl P SI nt ops l t)
 |[],t=>SH.pure t
 |o::l,t=>SH.bind (SH.gP P bI nt ops o t) fun t=>SH.jl P bI nt ops l t
theorem SH.nu(P:Program){SI:aO}(bI:∀t a,SH<|SI t a)(nt:Nat)(ops:Array Oper):∀(l:List Oper) (i:Nat) (t:Tr AV),SH (nu P SI nt ops l i t)
 |[],_,_=>SH.pure _
 |o::l,i,t=>SH.bind (SH.alone i<|SH.gP P bI nt ops o t) fun x=>SH.bind (SH.nu P bI nt ops l (i+1) x.1) fun _=>SH.pure _
theorem SH.qD(P:Program){SI:aO}(bI:∀t a,SH<|SI t a)(nt:Nat)(ops:Array Oper)(t:Tr AV):SH<|qD P SI nt ops t:=SH.bind (SH.nu P bI nt ops _ _ _) fun _=>SH.aF fun _=>SH.pure _
theorem SH.getLoop(l:Nat):SH<|getLoop l:=by
 unfold Rn.getLoop
 repeat' (first
  |exact SH.pure _|exact SH.fail|exact SH.lift _|exact SH.qc _|exact SH.bw _|exact SH.bM _ _|exact SH.gC _
  |refine SH.aC (fun _ _=>?_)|refine SH.aF (fun _=>?_)|refine SH.bind ?_ (fun _=>?_)
  |split)
theorem SH.lf(l:Nat):SH<|lf l:=by
 unfold Rn.lf
 repeat' (first
  |exact SH.pure _|exact SH.fail|exact SH.lift _|exact SH.qc _|exact SH.bw _|exact SH.bM _ _|exact SH.gC _|exact SH.getLoop _
  |refine SH.aC (fun _ _=>?_)|refine SH.aF (fun _=>?_)|refine SH.bind ?_ (fun _=>?_)
  |split)
theorem SH.ahQ(P:Program){SI:aO}(bI:∀t a,SH<|SI t a)(it:Item)(fn:FuncId)(t:Tr AV)(nt:Nat)(d:List Nat)(r:Option Nat)(k:List Item):SH<|(vY P it).val SI fn t nt d r k:=by
 cases it<;>simp only[vY]<;>(try simp only[rk.val])
 case code c=>
  unfold Xt;split<;>simp only<;>(first|(unfold qX;exact SH.pure _)|(unfold nS;exact SH.pure _)|(unfold X9;exact SH.pure _)|(unfold Qh;exact SH.fail)|(unfold Ll;exact SH.aC fun _ _=>SH.aC fun _ _=>SH.pure _)|(unfold EJ;split<;>exact SH.pure _)|(unfold EK;split<;>exact SH.pure _)|(unfold J1;exact SH.bind (SH.jl P bI _ _ _ _) fun _=>SH.pure _)|(unfold JG;exact SH.bind (SH.qD P bI _ _ _) fun _=>SH.pure _)|skip);unfold vE
  repeat' (first
   |exact SH.pure _|exact SH.fail|exact SH.lift _|exact SH.qc _|exact SH.bw _|exact SH.bM _ _|exact SH.gC _
   |exact SH.nr bI _ _|exact bI _ _|exact SH.getLoop _|exact SH.lf _
   |refine SH.aC (fun _ _=>?_)|refine SH.aF (fun _=>?_)|refine SH.bind ?_ (fun _=>?_)
   |split)
 case beginRound=>
  unfold zT
  repeat' (first
   |exact SH.pure _|exact SH.fail|exact SH.lift _|exact SH.qc _|exact SH.bw _|exact SH.bM _ _|exact SH.gC _|exact SH.getLoop _
   |refine SH.aC (fun _ _=>?_)|refine SH.aF (fun _=>?_)|refine SH.bind ?_ (fun _=>?_)
   |split)
 all_goals (first|exact SH.pure _|exact SH.fail)
theorem SH.jg(P:Program){SI:aO}(bI:∀t a,SH<|SI t a)(fr:AF):SH<|jg P SI fr:=by
 obtain⟨fn,t,nt,todo,d,r⟩:=fr;cases todo with
 |nil=>exact SH.pure _
 |cons it k=>exact SH.ahQ P bI it fn t nt d r k
theorem SH.nU(P:Program){SI:aO}(bI:∀t a,SH<|SI t a):∀(n:Nat) (fr:AF),SH (nU P SI n fr)
 |0,fr=>SH.jg P bI fr
 |n+1,fr=>SH.bind (SH.nU P bI n fr) (fun x=>by
  cases x with
  |go fr=>exact SH.nU P bI n fr
  |leave fr j=>exact SH.pure _)
theorem SH.qM(P:Program){SI:aO}(bI:∀t a,SH<|SI t a):∀(n k:Nat) (fr:AF),SH (qM P SI n k fr)
 |0,_,_=>SH.fail
 |n+1,k,fr=>SH.bind (SH.nU P bI k fr) (fun x=>by
  cases x with
  |go fr=>exact SH.qM P bI n (k+1) fr
  |leave fr j=>exact SH.pure _)
theorem SH.Bz(P:Program)(t:Tr AV)(r:ResultVar):SH<|Bz P t r:=by
 unfold Rn.Bz
 repeat' (first
  |exact SH.pure _|exact SH.fail|exact SH.lift _|exact SH.qc _|exact SH.bw _|exact SH.bM _ _|exact SH.gC _|exact SH.loadVar _ _ _ _
  |refine SH.aC (fun _ _=>?_)|refine SH.aF (fun _=>?_)|refine SH.bind ?_ (fun _=>?_)
  |split)
theorem SH.tI(P:Program)(t:Tr AV):∀l:List ResultVar,SH (tI P t l)
 |[]=>SH.pure _
 |r::l=>SH.bind (SH.Bz P t r) fun _=>SH.bind (SH.tI P t l) fun _=>SH.pure _
theorem SH.rP:∀l:List Nat,SH (rP l)
 |[]=>SH.pure _
 |d::l=>SH.bind (SH.bw d) (fun o=>by
  split
  ·exact SH.bind (SH.bM _ _) (fun _=>SH.rP l)
  ·exact SH.fail)
theorem SH.finish(P:Program)(rs:List ResultVar)(fr:AF)(j:Option Code):SH<|finish P rs fr j:=by
 unfold Rn.finish
 repeat' (first
  |exact SH.pure _|exact SH.fail|exact SH.lift _|exact SH.qc _|exact SH.bw _|exact SH.bM _ _|exact SH.gC _|exact SH.rP _|exact SH.tI _ _ _
  |refine SH.aC (fun _ _=>?_)|refine SH.aF (fun _=>?_)|refine SH.bind ?_ (fun _=>?_)
  |split)
theorem SH.vA(fr:AF)(it:Operand):SH<|vA fr it:=by
 unfold Rn.vA
 repeat' (first
  |exact SH.pure _|exact SH.fail|exact SH.lift _|exact SH.bw _
  |refine SH.bind ?_ (fun _=>?_)
  |split)
theorem SH.pQ(P:Program){SI:aO}(bI:∀t a,SH<|SI t a)(fr:AF)(n:Nat)(ob:ae)(o:Oper)(ops:Array Oper)(rest:List Oper)(k:List Item)(v:AV):
 SH (pQ P SI fr n ob o ops rest k v):=by
 unfold Rn.pQ
 repeat' (first
  |exact SH.pure _|exact SH.lift _|exact SH.bM _ _|exact SH.jl P bI _ _ _ _
  |refine SH.bind ?_ fun _=>?_)
theorem SH.pO(P:Program){SI:aO}(bI:∀t a,SH<|SI t a)(fr:AF)(n m:Nat)(es:List<|AV×AV)(ex:Bool)(o:Oper)(ops:Array Oper)(rest:List Oper)(k:List Item):
 SH (pO P SI fr n m es ex o ops rest k):=by
 unfold Rn.pO
 repeat' (first
  |exact SH.pure _|exact SH.lift _|exact SH.bM _ _|exact SH.jl P bI _ _ _ _
  |refine SH.bind ?_ fun _=>?_)
theorem SH.nQ(P:Program){SI:aO}(bI:∀t a,SH<|SI t a):∀(f:Nat) (fr:AF),SH (nQ P SI f fr)
 |0,_=>SH.fail
 |f+1,fr=>by
  unfold Rn.nQ
  repeat' (first
   |exact SH.fail|exact SH.pure _|exact SH.nQ P bI f _|exact SH.vA _ _|exact SH.pQ P bI _ _ _ _ _ _ _ _|exact SH.pO P bI _ _ _ _ _ _ _ _ _|exact SH.jg P bI _
   |refine SH.bind ?_ (fun _=>?_)
   |split)
theorem SH.Au(P:Program){SI:aO}(bI:∀t a,SH<|SI t a)(w:Nat)(fr:AF):SH<|Au P SI w fr:=by
 unfold Rn.Au;split
 ·exact SH.nQ P bI _ _
 ·exact SH.qM P bI _ _ _
theorem SH.EL(P:Program)(u f n:Nat)(rs:List ResultVar)(body:Code){SI:aO}(bI:∀t a,SH<|SI t a)(args:List AV):SH<|EL P u f n rs body SI args:=
 SH.aF (fun _=>SH.bind (SH.Au P bI _ _) (fun x=>by
  cases x with
  |go fr=>exact SH.fail
  |leave fr j=>exact SH.finish P rs fr j))
theorem SH.endRound(l:Nat)(j:Option Code):SH<|endRound l j:=by
 unfold Rn.endRound
 repeat' (first
  |exact SH.pure _|exact SH.fail|exact SH.lift _|exact SH.qc _|exact SH.bw _|exact SH.bM _ _|exact SH.gC _|exact SH.getLoop _
  |refine SH.aC (fun _ _=>?_)|refine SH.aF (fun _=>?_)|refine SH.bind ?_ (fun _=>?_)
  |split)
theorem SH.BA(P:Program){SI:aO}(bI:∀t a,SH<|SI t a)(l:Nat)(args:List AV):SH<|BA P SI l args:=by
 unfold Rn.BA;refine SH.bind (SH.getLoop _) fun o=>?_;split
 ·exact SH.aF fun _=>SH.bind (SH.qM P bI _ _ _) (fun x=>by
   cases x with
   |go fr=>exact SH.fail
   |leave fr j=>exact SH.endRound l j)
 ·exact SH.fail
end Go.Rn
namespace Go.Rn
end Go.Rn
namespace Go.Rn
theorem JI{n:Nat}:∀{l:List Nat},Cx n l=true↔n∈l
 |[]=>by simp[Cx]
 |x::l=>by
  simp only[Cx];cases h:Nat.beq x n with
  |true=>rw[beq_eq] at h;subst h;simp
  |false=>
   have:¬x=n:=by rw[←beq_eq,h];simp
   simp only[JI (l:=l),List.mem_cons];constructor
   ·exact .inr
   ·rintro (e|e)
    ·exact absurd e.symm this
    ·exact e
theorem Jo(P:Program)(jZ:FuncId->Nat):∀(n:Nat) (t:Io) (args:List AV),SH (Av P jZ n t args)
 |0,_,_=>SH.fail
 |n+1,.fn f,args=>by
  have bI:∀t a,SH<|Av P jZ n t a:=fun t a=>Jo P jZ n t a;show SH<|(Iq P jZ f).val (Av P jZ n) args;unfold Iq
  repeat' split
  all_goals first|exact SH.fail|exact SH.EL P _ _ _ _ _ bI _
 |n+1,.round l,args=>SH.BA P (fun t a=>Jo P jZ n t a) l args
 |_+1,.row _ _ _,_=>SH.fail
end Go.Rn
namespace Go.Rn
open Go.RowKit
variable {ρ σ:aw} {w w':World} {b n N c a:Nat} {B:aJ} {h h':Tr ae} {o:ae} {o':Obj} {x:Nat×Nat}
def eQ(ρ:aw)(n:Nat)(x:Nat×Nat):aw:=fun k=>if k=n then some x else ρ k
theorem oD(h:ρ n=none):ρ.le<|eQ ρ n x:=by
 intro k y e;unfold eQ;by_cases q:k=n
 ·subst q;rw[h] at e;cases e
 ·rw[if_neg q];exact e
theorem iQ(ρ:aw)(n:Nat)(x:Nat×Nat):eQ ρ n x n=some x:=by simp[eQ]
theorem gM(ρ:aw){k:Nat}(x:Nat×Nat)(h:k≠n):eQ ρ n x k=ρ k:=by simp[eQ,h]
structure xY (b:Nat) (w w':World):Prop where
 os:w'.os=w.os
 tape:w'.tape=w.tape
 output:w'.output=w.output
 size:w'.heap.size=w.heap.size
 block:∀k,k≠b->w'.heap[k]? =w.heap[k]?
structure cP (B:aJ) (w w':World):Prop where
 os:w'.os=w.os
 tape:w'.tape=w.tape
 output:w'.output=w.output
 size:w.heap.size<=w'.heap.size
 block:∀k,k<w.heap.size->¬B.may k->w'.heap[k]? =w.heap[k]?
theorem cP.refl(B:aJ)(w:World):cP B w w:=⟨rfl,rfl,rfl,Nat.le_refl _,fun _ _ _=>rfl⟩
theorem cP.trans{a b c:World}(h:cP B a b)(k:cP B b c):cP B a c:=⟨k.os.trans h.os,k.tape.trans h.tape,k.output.trans h.output,Nat.le_trans h.size k.size,fun i hi hm=>(k.block i (Nat.lt_of_lt_of_le hi h.size) hm).trans<|h.block i hi hm⟩
theorem xY.below(h:xY b w w')(hb:B.may b):cP B w w':=⟨h.os,h.tape,h.output,by rw[h.size];exact Nat.le_refl _,fun k _ hm=>h.block k fun e=>hm (by rw[e];exact hb)⟩
theorem Fz.of(f:Fz B ρ h w)(hl:ρ.le σ)(hw:∀b,b<w.heap.size->jY ρ h b->w'.heap[b]? =w.heap[b]?)(hd:∀b,b<w.heap.size->jY ρ h b->jY σ h' b)(hm:∀k,top<=k->σ k=ρ k:=by(intro k hk;first|rfl|exact gM _ _ ak)):Fz B σ h' w':=by intro n b sh e;rw[hm _<|gg _ _ _] at e;obtain⟨h0,l,c,e',fr,h1,h3,h4,h5⟩:=f n b sh e;have hb:b<w.heap.size:=(Array.getElem?_eq_some_iff.1 h3).1;exact⟨h0,l,c,e',fr,h1,(hw b hb h4).trans h3,hd b hb h4,fun i x hx=>by obtain⟨v,a1,a2,a3⟩:=h5 i x hx;exact⟨v,a1,VR.mono (GH hl) _ _ a2,a3⟩⟩
theorem jY.sub(k:jY ρ h b)(hs:∀m o,m<top->h'.get m=some o->o.du=false->∃p,h.get m=some p/\p.du=false):jY ρ h' b:=by intro m o N hm hg hr;obtain⟨p,e1,e2⟩:=hs m o hm hg hr;exact k m p N hm e1 e2
def ae.plain:ae->Bool
 | .iter _ _ _ _ _=>false
 | .jP=>false
 | .tok _ _=>false
 |_=>true
def ae.lZ:ae->Bool
 | .iter _ _ _ _ _=>false
 | .jP=>false
 |_=>true
def ae.lh:ae->Bool
 | .tok _ _=>true
 |_=>false
def fm(o1 o2:ae):Prop:=(o2.du=false->o1.du=false)/\(o2.lh=true->o1=o2)/\(o2.mW=true->o1.mW=true)
theorem fm.refl(o:ae):fm o o:=⟨id,fun _=>rfl,id⟩
def ae.own:ae->Bool
 | .iter _ _ _ _ _=>false
 | .jP=>false
 | .tok _ _=>false
 | .ro _ _=>false
 | .uj _ _=>false
 |_=>true
theorem ae.vt(h:o.own=true):o.plain=true/\o.du=false:=by cases o<;>first|exact⟨rfl,rfl⟩|cases h
theorem Rel.block(r:Rel B ρ h w)(ht:n<top)(hg:h.get n=some o)(hr:ρ n=some (b,N)):
 ∃o',w.heap[b]? =some o'/\OR ρ N o o'/\(o.du=false->B.may b):=by
 obtain⟨b',N',o',h1,h2,h3,h4⟩:=r.is n o ht hg;rw[hr] at h1;cases h1;exact⟨o',h2,h3,h4⟩
theorem np.mX{m:Nat}{es:List<|AV×AV}{ex:Bool}{left:List<|AV×AV}{cur:Option<|AV×AV}(u:np ρ w n m es ex left cur)(hw:∀k,k≠b->w'.heap[k]? =w.heap[k]?)(hn:∀N,ρ n≠some (b,N))(hm:∀N,ρ m≠some (b,N)):np ρ w' n m es ex left cur:=by obtain⟨b1,N,bm,M,l,bj,seen,h1,h2,h3,h4,h5⟩:=u;exact⟨b1,N,bm,M,l,bj,seen,h1,h2,(hw b1 fun e=>hn N<|by rw[h1,e]).trans h3,(hw bm fun e=>hm M<|by rw[h2,e]).trans h4,h5⟩
theorem Rel.put(r:Rel B ρ h w){p:ae}(ht:n<top)(hg:h.get n=some p)(hp:p.plain=true)(cH:p.du=false)(hr:ρ n=some (b,N))(C0:o.own=true)(hw:xY b w w')(hb:w'.heap[b]? =some o')(hO:OR ρ N o o'):Rel B ρ (h.put n<|some o) w':=by
 obtain⟨ho,HP⟩:=ae.vt C0;obtain⟨_,_,_,hB⟩:=r.block ht hg hr;have g:∀m,m<top->(h.put n<|some o).get m=if m=n then some o else h.get m:=fun m hm=>Tr.dt _ _ _ _ ht hm
 refine⟨?_,?_,?_,by rw[hw.size];exact r.size,?_,r.fz.of (aw.le_refl _) (fun b1 _ hn=>hw.block b1 fun e=>hn n p N ht hg cH (by rw[e];exact hr)) (fun b1 _ hn=>hn.sub fun m q hm hq hU=>by
  rw[g m hm] at hq;by_cases e:m=n
  ·subst e;exact⟨p,hg,cH⟩
  ·rw[if_neg e] at hq;exact⟨q,hq,hU⟩),r.tk.of (aw.le_refl _) (fun m q hm hq hr=>by
  rw[g m hm] at hq;by_cases e:m=n
  ·rw[if_pos e] at hq;cases hq;rw[HP] at hr;cases hr
  ·rw[if_neg e] at hq;exact hq) (by rw[hw.size];exact Nat.le_refl _) (fun b1 _ hn=>hw.block b1 fun e=>hn n p N ht hg cH (by rw[e];exact hr)) (fun b1 _ hn=>hn.sub fun m q hm hq hU=>by
  rw[g m hm] at hq;by_cases e:m=n
  ·subst e;exact⟨p,hg,cH⟩
  ·rw[if_neg e] at hq;exact⟨q,hq,hU⟩) fun _ _ _ _ _ e=>e⟩
 ·intro m q hm hq;rw[g m hm] at hq;by_cases e:m=n
  ·subst e;rw[if_pos rfl] at hq;cases hq;exact⟨b,N,o',hr,hb,hO,fun _=>hB cH⟩
  ·rw[if_neg e] at hq;obtain⟨b1,N1,o1,h1,h2,h3,h4⟩:=r.is m q hm hq;refine⟨b1,N1,o1,h1,(hw.block b1 fun e2=>?_).trans h2,h3,h4⟩;subst e2;exact e<|r.one m n q p b1 N1 N hm ht hq hg (.inr cH) h1 hr
 ·intro m k q q' b1 N1 M1 hm hk hq dR cZ h1 h2;rw[g m hm] at hq;rw[g k hk] at dR;have live:∀j,j<top->∀x,(if j=n then some o else h.get j)=some x->∃y,h.get j=some y/\(x.du=false->y.du=false):=by
   intro j _ x hx;by_cases e:j=n
   ·subst e;exact⟨p,hg,fun _=>cH⟩
   ·rw[if_neg e] at hx;exact⟨x,hx,id⟩
  obtain⟨y,hy,wM⟩:=live m hm q hq;obtain⟨z,hz,It⟩:=live k hk q' dR;exact r.one m k y z b1 N1 M1 hm hk hy hz (cZ.imp wM It) h1 h2
 ·intro i m es ex left cur hi hq;rw[g i hi] at hq;by_cases e:i=n
  ·subst e;rw[if_pos rfl] at hq;cases hq;simp[ae.plain] at ho
  ·rw[if_neg e] at hq;obtain⟨hm,hl,u⟩:=r.iter i m es ex left cur hi hq;have sL:m≠n:=by intro e2;subst e2;rw[hg] at hl;cases hl;simp[ae.plain] at hp
   refine⟨hm,by rw[g m hm,if_neg sL];exact hl,u.mX hw.block (fun M e2=>e ?_) fun M e2=>sL ?_⟩
   ·exact r.one i n _ p b M N hi ht hq hg (.inr cH) e2 hr
   ·exact r.one m n _ p b M N hm ht hl hg (.inr cH) e2 hr
 ·intro i j m es ex left cur hJ iW iK iL hi hj h1 h2;rw[g i hi] at h1;rw[g j hj] at h2;by_cases e:i=n
  ·rw[if_pos e] at h1;cases h1;simp[ae.plain] at ho
  ·rw[if_neg e] at h1;by_cases e2:j=n
   ·rw[if_pos e2] at h2;cases h2;simp[ae.plain] at ho
   ·rw[if_neg e2] at h2;exact r.lone i j m es ex left cur hJ iW iK iL hi hj h1 h2
theorem Rel.drop(r:Rel B ρ h w)(ht:n<top)(hn:h.get n≠some .jP):Rel B ρ (h.put n none) w:=by
 have g:∀m,m<top->(h.put n none).get m=if m=n then none else h.get m:=fun m hm=>Tr.dt _ _ _ _ ht hm
 refine⟨?_,?_,?_,r.size,?_,r.fz.of (aw.le_refl _) (fun _ _ _=>rfl) (fun b1 _ hn=>hn.sub fun m q hm hq hU=>by
  rw[g m hm] at hq;by_cases e:m=n
  ·rw[if_pos e] at hq;cases hq
  ·rw[if_neg e] at hq;exact⟨q,hq,hU⟩),r.tk.of (aw.le_refl _) (fun m q hm hq _=>by
  rw[g m hm] at hq;by_cases e:m=n
  ·rw[if_pos e] at hq;cases hq
  ·rw[if_neg e] at hq;exact hq) (Nat.le_refl _) (fun _ _ _=>rfl) (fun b1 _ hn=>hn.sub fun m q hm hq hU=>by
  rw[g m hm] at hq;by_cases e:m=n
  ·rw[if_pos e] at hq;cases hq
  ·rw[if_neg e] at hq;exact⟨q,hq,hU⟩) fun _ _ _ _ _ e=>e⟩
 ·intro m q hm hq;rw[g m hm] at hq;by_cases e:m=n
  ·rw[if_pos e] at hq;cases hq
  ·rw[if_neg e] at hq;exact r.is m q hm hq
 ·intro m k q q' b1 N1 M1 hm hk hq dR cZ h1 h2;rw[g m hm] at hq;rw[g k hk] at dR;by_cases e:m=n
  ·rw[if_pos e] at hq;cases hq
  ·by_cases e2:k=n
   ·rw[if_pos e2] at dR;cases dR
   ·rw[if_neg e] at hq;rw[if_neg e2] at dR;exact r.one m k q q' b1 N1 M1 hm hk hq dR cZ h1 h2
 ·intro i m es ex left cur hi hq;rw[g i hi] at hq;by_cases e:i=n
  ·rw[if_pos e] at hq;cases hq
  ·rw[if_neg e] at hq;obtain⟨hm,hl,u⟩:=r.iter i m es ex left cur hi hq;have sL:m≠n:=by intro e2;subst e2;exact hn hl
   exact⟨hm,by rw[g m hm,if_neg sL];exact hl,u⟩
 ·intro i j m es ex left cur hJ iW iK iL hi hj h1 h2;rw[g i hi] at h1;rw[g j hj] at h2;by_cases e:i=n
  ·rw[if_pos e] at h1;cases h1
  ·rw[if_neg e] at h1;by_cases e2:j=n
   ·rw[if_pos e2] at h2;cases h2
   ·rw[if_neg e2] at h2;exact r.lone i j m es ex left cur hJ iW iK iL hi hj h1 h2
structure gX (w w':World):Prop where
 os:w'.os=w.os
 tape:w'.tape=w.tape
 output:w'.output=w.output
 size:w.heap.size<=w'.heap.size
 block:∀k,k<w.heap.size->w'.heap[k]? =w.heap[k]?
theorem gX.drew(w:World):gX w {w with drawn:=w.drawn+1}:=⟨rfl,rfl,rfl,Nat.le_refl _,fun _ _=>rfl⟩
theorem gX.alloc(w:World)(o:Obj):gX w {w with heap:=w.heap.push o}:=⟨rfl,rfl,rfl,by simp,fun k hk=>by simp[Array.getElem?_push];intro e;omega⟩
theorem gX.trans{a b c:World}(h:gX a b)(k:gX b c):gX a c:=⟨k.os.trans h.os,k.tape.trans h.tape,k.output.trans h.output,Nat.le_trans h.size k.size,fun i hi=>(k.block i<|Nat.lt_of_lt_of_le hi h.size).trans<|h.block i hi⟩
theorem gX.below(h:gX w w')(_:∀k,w.heap.size<=k->B.may k):cP B w w':=⟨h.os,h.tape,h.output,h.size,fun k hk _=>h.block k hk⟩
theorem gV{o:Obj}(h:w.heap[b]? =some o):b<w.heap.size:=(Array.getElem?_eq_some_iff.1 h).1
theorem Rel.Fg(r:Rel B ρ h w)(g:gX w w'):Rel B ρ h w':=by
 refine⟨?_,r.one,?_,fun k hk=>r.size k<|Nat.le_trans g.size hk,r.lone,r.fz.of (aw.le_refl _) (fun b hb _=>g.block b hb) fun _ _ hn=>hn,r.tk.of (aw.le_refl _) (fun _ _ _ hq _=>hq) g.size (fun b hb _=>g.block b hb) (fun _ _ hn=>hn) fun _ _ _ _ _ e=>e⟩
 ·intro m q hm hq;obtain⟨b1,N1,o1,h1,h2,h3,h4⟩:=r.is m q hm hq;exact⟨b1,N1,o1,h1,(g.block b1<|gV h2).trans h2,h3,h4⟩
 ·intro i m es ex left cur hi hq;obtain⟨hm,fx,b1,N,bm,M,l,bj,seen,h1,h2,h3,h4,h5⟩:=r.iter i m es ex left cur hi hq;exact⟨hm,fx,b1,N,bm,M,l,bj,seen,h1,h2,(g.block b1<|gV h3).trans h3,(g.block bm<|gV h4).trans h4,h5⟩
theorem Rel.name(r:Rel B ρ h w)(ht:n<top)(pt:ρ n=none)(ho:o.plain=true)(hb:w.heap[b]? =some o')(hB:o.du=false->B.may b)(hfz:∀k sh,ρ (hn k b sh)=none)(l7:∀m p,m<top->h.get m=some p->∀M,ρ m≠some (b,M))(hO:OR (eQ ρ n (b,N)) N o o')(hT:uO B (eQ ρ n (b,N)) (h.put n<|some o) w):Rel B (eQ ρ n (b,N)) (h.put n<|some o) w:=by
 have hl:ρ.le<|eQ ρ n (b,N):=oD pt;have mm:h.get n=none:=by
  cases e:h.get n with
  |none=>rfl
  |some p=>obtain⟨_,_,_,h1,_⟩:=r.is n p ht e;rw[pt] at h1;cases h1
 have g:∀m,m<top->(h.put n<|some o).get m=if m=n then some o else h.get m:=fun m hm=>Tr.dt _ _ _ _ ht hm
 refine⟨?_,?_,?_,r.size,?_,fun k b1 sh e=>by
  rw[gM ρ _ (by have:=gg k b1 sh;omega)] at e;obtain⟨h0,l,c,e',fr,h1,h3,h4,h5⟩:=r.fz k b1 sh e;refine⟨h0,l,c,e',fr,h1,h3,fun m q M hm hq hU e2=>?_,fun i x hx=>by obtain⟨v,a1,a2,a3⟩:=h5 i x hx;exact⟨v,a1,VR.mono (GH hl) _ _ a2,a3⟩⟩;rw[g m hm] at hq;by_cases e3:m=n
  ·subst e3;rw[iQ] at e2;cases e2;exact e (hfz k sh)
  ·rw[if_neg e3] at hq;rw[gM ρ _ e3] at e2;exact h4 m q M hm hq hU e2,hT⟩
 ·intro m q hm hq;rw[g m hm] at hq;by_cases e:m=n
  ·subst e;rw[if_pos rfl] at hq;cases hq;exact⟨b,N,o',iQ _ _ _,hb,hO,hB⟩
  ·rw[if_neg e] at hq;obtain⟨b1,N1,o1,h1,h2,h3,h4⟩:=r.is m q hm hq;exact⟨b1,N1,o1,hl _ _ h1,h2,h3.mono hl,h4⟩
 ·intro m k q q' b1 N1 M1 hm hk hq dR cZ h1 h2;rw[g m hm] at hq;rw[g k hk] at dR;by_cases e:m=n
  ·by_cases e2:k=n
   ·omega
   ·rw[if_neg e2] at dR;subst e;rw[iQ] at h1;cases h1;rw[gM ρ _ e2] at h2;exact absurd h2<|l7 k q' hk dR M1
  ·rw[if_neg e] at hq;rw[gM ρ _ e] at h1;by_cases e2:k=n
   ·subst e2;rw[iQ] at h2;cases h2;exact absurd h1<|l7 m q hm hq N1
   ·rw[if_neg e2] at dR;rw[gM ρ _ e2] at h2;exact r.one m k q q' b1 N1 M1 hm hk hq dR cZ h1 h2
 ·intro i m es ex left cur hi hq;rw[g i hi] at hq;by_cases e:i=n
  ·subst e;rw[if_pos rfl] at hq;cases hq;simp[ae.plain] at ho
  ·rw[if_neg e] at hq;obtain⟨hm,fx,u⟩:=r.iter i m es ex left cur hi hq;have sL:m≠n:=by intro e2;subst e2;rw[mm] at fx;cases fx
   exact⟨hm,by rw[g m hm,if_neg sL];exact fx,u.mono hl⟩
 ·intro i j m es ex left cur hJ iW iK iL hi hj h1 h2;rw[g i hi] at h1;rw[g j hj] at h2;by_cases e:i=n
  ·rw[if_pos e] at h1;cases h1;simp[ae.plain] at ho
  ·rw[if_neg e] at h1;by_cases e2:j=n
   ·rw[if_pos e2] at h2;cases h2;simp[ae.plain] at ho
   ·rw[if_neg e2] at h2;exact r.lone i j m es ex left cur hJ iW iK iL hi hj h1 h2
theorem Rel.new(r:Rel B ρ h w)(ht:n<top)(pt:ρ n=none)(C0:o.own=true)(hO:OR (eQ ρ n (w.heap.size,N)) N o o'):Rel B (eQ ρ n (w.heap.size,N)) (h.put n<|some o) {w with heap:=w.heap.push o'}:=by
 obtain⟨ho,HP⟩:=ae.vt C0;refine(r.Fg<|gX.alloc w o').name ht pt ho jI (fun _=>r.size _<|Nat.le_refl _) (fun k sh=>by
  cases e:ρ (Rn.hn k w.heap.size sh) with
  |none=>rfl
  |some x=>obtain⟨_,_,_,_,_,_,h3,_⟩:=r.fz k w.heap.size sh (by rw[e];exact fun h=>by cases h);exact absurd (gV h3)<|Nat.lt_irrefl _) (fun m p hm hp M e=>?_) hO ?_
 ·obtain⟨b1,N1,o1,h1,h2,_⟩:=r.is m p hm hp;rw[e] at h1;cases h1;exact absurd (gV h2)<|Nat.lt_irrefl _
 ·have g:∀m,m<top->(h.put n<|some o).get m=if m=n then some o else h.get m:=fun m hm=>Tr.dt _ _ _ _ ht hm
  exact r.tk.of (oD pt) (fun m q hm hq hr=>by
   rw[g m hm] at hq;by_cases e:m=n
   ·rw[if_pos e] at hq;cases hq;rw[HP] at hr;cases hr
   ·rw[if_neg e] at hq;exact hq) (gX.alloc w o').size (fun b hb _=>(gX.alloc w o').block b hb) (fun b1 uS hn m q M hm hq hU e2=>by
   rw[g m hm] at hq;by_cases e3:m=n
   ·subst e3;rw[iQ] at e2;cases e2;exact absurd uS (Nat.lt_irrefl _)
   ·rw[if_neg e3] at hq;rw[gM ρ _ e3] at e2;exact hn m q M hm hq hU e2) (fun j x sh _ _ e=>by rw[gM ρ _ (by have:=gg j x sh;omega)];exact e)
structure Ext (a b:Nat) (ρ σ:aw):Prop where
 le:ρ.le σ
 out:∀k,k<top->¬(a<=k/\k<b)->σ k=ρ k
theorem Ext.refl(a b:Nat)(ρ:aw):Ext a b ρ ρ:=⟨aw.le_refl ρ,fun _ _ _=>rfl⟩
theorem Ext.trans{τ:aw}(Iu:a<=b)(hbc:b<=c)(h:Ext a b ρ σ)(k:Ext b c σ τ):Ext a c ρ τ:=⟨aw.le_trans h.le k.le,fun j hj hk=>(k.out j hj ak).trans<|h.out j hj ak⟩
theorem Ext.mK(h:ρ n=none):Ext n (n+1) ρ<|eQ ρ n x:=⟨oD h,fun k _ hk=>gM ρ x ak⟩
def dJ(a b:Nat)(ρ:aw):Prop:=∀k,a<=k->k<b->k<top->ρ k=none
theorem dJ.next(hf:dJ a c ρ)(Iu:a<=b)(e:Ext a b ρ σ):dJ b c σ:=fun k h1 h2 h3=>(e.out k h3 ak).trans<|hf k ak h2 h3
theorem dJ.sub{d:Nat}(hf:dJ a d ρ)(h1:a<=b)(h2:c<=d):dJ b c ρ:=fun k p q r=>hf k ak ak r
end Go.Rn
namespace Go.Rn
open Go.RowKit
variable {n off b k N:Nat} {ρ:aw} {w:World} {vs:List Value} {l:List AV} {c:Array Value} {s1 s:AS} {P:Program} {e:TypeId} {B:aJ} {u:Unit}
theorem fY{o:ae}(h:bw n s= .ok o s1):n<s.nx/\s.h.get n=some o/\s1.h=s.h/\s1.nx=s.nx:=by
 obtain⟨h1,h2,rfl⟩:=Pc h;by_cases e:n<s.mark
 ·rw[if_pos e];exact⟨h1,h2,rfl,rfl⟩
 ·rw[if_neg e];exact⟨h1,h2,rfl,rfl⟩
theorem jy{o:Option ae}(h:bM n o s= .ok u s1):
 n<s.nx/\n<top/\(∃p,s.h.get n=some p/\p.du=false)/\s1.h=s.h.put n o/\s1.nx=s.nx:=by
 obtain⟨h1,h2,h3,rfl⟩:=VF h;by_cases e:n<s.mark
 ·rw[if_pos e];exact⟨h1,h2,h3,rfl,rfl⟩
 ·rw[if_neg e];exact⟨h1,h2,h3,rfl,rfl⟩
theorem aL{m:Nat}:Nat.ble n m=true↔n<=m:=by rw[Nat.ble_eq]
theorem eA{m:Nat}:Nat.beq n m=true↔n=m:=by rw[Nat.beq_eq]
theorem and_true{a b:Bool}:and a b=true↔a=true/\b=true:=Bool.and_eq_true_iff
theorem Jj{t:Tr AV}{z:List AV}:∀{k off:Nat} {l:List AV},lY t z k off=some l->l.length=k/\∀i,i<k->cellAt t z (off+i)=l[i]?
 |0,off,l,h=>by
  simp only[lY] at h;injection h with h;subst h
  exact⟨rfl,fun i hi=>by omega⟩
 |k+1,off,l,h=>by
  simp only[lY] at h;cases e:cellAt t z off with
  |none=>rw[e] at h;cases h
  |some v=>
   simp only[e] at h;cases e2:lY t z k (off+1) with
   |none=>simp only[e2] at h;cases h
   |some r=>
    simp only[e2] at h;injection h with h;subst h
    obtain⟨a,b⟩:=Jj e2;refine⟨by simp[a],fun i hi=>?_⟩;cases i with
    |zero=>simpa using e
    |succ i=>have:=b i ak;rw[show off+1+i=off+(i+1) from by omega] at this;simpa using this
def Row(ρ:aw)(c:Array Value)(n:Nat)(au:Nat->Option AV):Prop:=∀i,i<n->∃x v,au i=some x/\x.cj=true/\c[i]? =some v/\VR ρ x v
theorem Row.get{au:Nat->Option AV}(r:Row ρ c n au)(hk:off+k<=n)(hl:l.length=k)(h:∀i,i<k->au (off+i)=l[i]?):
 ∃vs:List Value,vs.length=k/\az ρ l vs/\(∀j v,vs[j]? =some v->c[off+j]? =some v)/\∀x∈l,x.cj=true:=by
 have cell:∀i,i<k->∃x v,l[i]? =some x/\x.cj=true/\c[off+i]? =some v/\VR ρ x v:=by intro i hi;obtain⟨x,v,h1,h2,h3,h4⟩:=r (off+i) ak;exact⟨x,v,by rw[←h i hi];exact h1,h2,h3,h4⟩
 refine⟨(List.range k).map fun i=>c.getD (off+i) undef,by simp,?_,?_,?_⟩
 ·refine az.WI _ _ (by simp[hl]) fun i a b ha hb=>?_;have hi:i<k:=by have:=List.getElem?_eq_some_iff.1 ha;obtain⟨h1,_⟩:=this;omega
  obtain⟨x,v,h1,h2,h3,h4⟩:=cell i hi;rw[h1] at ha;cases ha;have iO:b=v:=by rw[List.getElem?_map,List.getElem?_range hi] at hb;simp only[Option.map_some,Option.some.injEq] at hb;rw[←hb,Array.getD_eq_getD_getElem?,h3];rfl
  rw[iO];exact h4
 ·intro j v hv;have hj:j<k:=by have:=List.getElem?_eq_some_iff.1 hv;obtain⟨h1,_⟩:=this;simpa using h1
  obtain⟨x,u,h1,h2,h3,h4⟩:=cell j hj;rw[List.getElem?_map,List.getElem?_range hj] at hv;simp only[Option.map_some,Option.some.injEq] at hv;rw[←hv,Array.getD_eq_getD_getElem?,h3];rfl
 ·intro x hx;obtain⟨i,hi,rfl⟩:=List.getElem_of_mem hx;obtain⟨y,v,h1,h2,h3,h4⟩:=cell i ak;rw[List.getElem?_eq_getElem hi] at h1;cases h1;exact h2
theorem JJ{fr:Nat×Nat}(hb:w.heap[b]? =some (.cells c e fr))(h:∀j v,vs[j]? =some v->c[off+j]? =some v):(loadCells ⟨b,off,none⟩ vs.length).run P w= .ok vs.toArray w:=by
 refine run_loadCells_list w ⟨b,off,none⟩ vs fun j v hv=>?_;have Yb:(Addr.mk b off none).add j=⟨b,off+j,none⟩:=by
  unfold Addr.add;by_cases q:j=0
  ·subst q;simp
  ·rw[if_neg q]
 rw[Yb];simp only[World.cell?,hb];exact h j v hv
theorem zy(fi:bE s)(r:Rel B ρ s.h w)(h:jd n off k s= .ok l s1)(hn:ρ n=some (b,N)):
 s1.h=s.h/\s1.nx=s.nx/\l.length=k/\(∀x∈l,x.cj=true)/\∃vs:List Value,(loadCells ⟨b,off,none⟩ k).run P w= .ok vs.toArray w/\az ρ l vs/\∀j v,vs[j]? =some v->w.cell? ⟨b,off+j,none⟩=some v:=by
 cases k with
 |zero=>have h':M.pure [] s= .ok l s1:=h;obtain⟨rfl,rfl⟩:=bH h';exact⟨rfl,rfl,rfl,fun x hx=>(by cases hx),[],rfl,by simp[az],fun j v h=>(by simp at h)⟩
 |succ k=>
  unfold jd at h;obtain⟨o,s2,h1,h2⟩:=M.aR h;obtain⟨hx,hg,hh,cJ⟩:=fY h1;have ht:n<top:=Nat.lt_of_lt_of_le hx fi.nx;obtain⟨o',hb,hO,_⟩:=r.block ht hg hn;cases o with
  |cells m t z=>obtain⟨q1,q2⟩:=cX h2;obtain⟨q3,rfl⟩:=gT q2;obtain⟨c,e,rfl,hc,hm,row⟩:=hO;obtain⟨g1,g2⟩:=Jj q3;obtain⟨vs,v1,v2,v3,v4⟩:=Row.get (ρ:=ρ) (c:=c) (n:=m) (au:=cellAt t z) row (aL.1 q1) g1 g2;refine⟨hh,cJ,g1,v4,vs,?_,v2,fun j v hv=>by simp only[World.cell?,hb];exact v3 j v hv⟩;have:=JJ (P:=P) hb v3;rw[v1] at this;exact this
  |ro m t=>
   obtain⟨q1,q2⟩:=cX h2;obtain⟨q3,rfl⟩:=gT q2;obtain⟨c,e,fr,rfl,hc,hm,row⟩:=hO;obtain⟨g1,g2⟩:=Jj q3;have ajJ:Row ρ c m<|cellAt t []:=by intro i hi;obtain⟨x,v,a1,a2,a3,a4⟩:=row i hi;exact⟨x,v,by unfold cellAt;rw[a1],a2,a3,a4⟩
   obtain⟨vs,v1,v2,v3,v4⟩:=ajJ.get (aL.1 q1) g1 g2;refine⟨hh,cJ,g1,v4,vs,?_,v2,fun j v hv=>by simp only[World.cell?,hb];exact v3 j v hv⟩;have:=JJ (P:=P) hb v3;rw[v1] at this;exact this
  |_=>cases h2
theorem Np{cs:Array Value}{fr:Nat×Nat}(hb:w.heap[b]? =some (.cells c e fr)):
 xY b w (w.setRow b cs)/\(w.setRow b cs).heap[b]? =some (.cells cs e fr):=by
 refine⟨⟨rfl,rfl,rfl,by simp[World.setRow],fun k hk=>?_⟩,setRow_heap w b c cs e fr hb⟩;simp only[World.setRow,Array.getElem?_modify];rw[if_neg ak]
theorem aaV{x:AV}{v:Value}(h:VR ρ x v)(hx:x.cj=true):v.oneCell'=true:=by
 cases v with
 |agg cs=>exact absurd rfl (VR.cj h hx cs).1
 |tuple cs=>exact absurd rfl (VR.cj h hx cs).2
 |_=>rfl
theorem Jc{ρ:aw}:∀{l:List AV} {vs:List Value},az ρ l vs->(∀x∈l,x.cj=true)->∀v∈vs,v.oneCell'=true
 |[],vs,h,_,v,hv=>by simp only[az] at h;subst h;cases hv
 |x::l,vs,h,hx,v,hv=>by
  simp only[az] at h;obtain⟨y,ys,rfl,a,b⟩:=h;rcases List.mem_cons.1 hv with rfl|hv
  ·exact aaV a<|hx x List.mem_cons_self
  ·exact Jc b (fun z hz=>hx z<|List.mem_cons_of_mem _ hz) v hv
theorem Row.set{t:Tr AV}{z:List AV}(r:Row ρ c n<|cellAt t z){m:Nat}(hl:az ρ l vs)(h1:∀x∈l,x.cj=true)(anX:off<=n)(hm:m=max n (off+l.length))(hc:m<=c.size)(ht:m<=top):
 Row ρ ((c.toList.take off++vs++c.toList.drop (off+vs.length)).toArray) m (cellAt (Tr.fill l off t) z):=by
 have hlen:l.length=vs.length:=hl.length;intro i hi;have ajK:cellAt (Tr.fill l off t) z i=match (Tr.fill l off t).get i with|some v=>some v|none=>z[i % z.length]? :=rfl
 rw[ajK,Tr.OC _ _ _ _ ak ak];by_cases q:off<=i/\i<off+l.length
 ·rw[if_pos q];obtain⟨x,hx⟩:∃x,l[i - off]? =some x:=⟨l[i - off]'ak,List.getElem?_eq_getElem ak⟩;obtain⟨v,hv,hr⟩:=hl.get (i - off) x hx;refine⟨x,v,by rw[hx],h1 x<|List.mem_of_getElem? hx,?_,hr⟩;simp only[List.getElem?_toArray];rw[List.append_assoc,List.getElem?_append_right wK];simp only[List.length_take,Array.length_toList];rw[Nat.min_eq_left ak,List.getElem?_append_left ak];exact hv
 ·rw[if_neg q];have iz:i<n:=by omega
  obtain⟨x,v,a1,a2,a3,a4⟩:=r i iz;refine⟨x,v,a1,a2,?_,a4⟩;simp only[List.getElem?_toArray];by_cases q2:i<off
  ·rw[List.append_assoc,List.getElem?_append_left wK,List.getElem?_take_of_lt q2];simpa using a3
  ·rw[List.getElem?_append_right wK];simp only[List.length_append,List.length_take,Array.length_toList,List.getElem?_drop];rw[Nat.min_eq_left ak];rw[show off+vs.length+(i - (off+vs.length))=i from by omega];simpa using a3
theorem size_set(h:off+vs.length<=c.size):((c.toList.take off++vs++c.toList.drop (off+vs.length)).toArray).size=c.size:=by simp;omega
theorem NR(hb:w.heap[b]? =some (.cells c e (0,0)))(h:off+vs.length<=c.size)(h1:∀v∈vs,v.oneCell'=true):
 (storeCells ⟨b,off,none⟩ vs).run P w= .ok () (w.setRow b (c.toList.take off++vs++c.toList.drop (off+vs.length)).toArray):=by
 have:=run_storeCells_at P b off e vs 0 c w hb (by simpa using h) h1;simpa using this
theorem Nc(fi:bE s)(r:Rel B ρ s.h w)(h:rL n off l s= .ok u s1)(hn:ρ n=some (b,N))(hl:az ρ l vs):
 s1.nx=s.nx/\∃w',(storeCells ⟨b,off,none⟩ vs).run P w= .ok () w'/\Rel B ρ s1.h w'/\cP B w w':=by
 cases l with
 |nil=>simp only[az] at hl;subst hl;have h':M.pure () s= .ok u s1:=h;obtain⟨_,rfl⟩:=bH h';exact⟨rfl,w,rfl,r,cP.refl _ _⟩
 |cons x l=>
  unfold rL at h;obtain⟨o,s2,h1,h2⟩:=M.aR h;obtain⟨hx,hg,hh,cJ⟩:=fY h1;have ht:n<top:=Nat.lt_of_lt_of_le hx fi.nx;obtain⟨o',hb,hO,hB⟩:=r.block ht hg hn;cases o with
  |cells m t z=>obtain⟨q1,q2⟩:=cX h2;obtain⟨q3,q4⟩:=and_true.1 q1;obtain⟨q5,q6⟩:=and_true.1 q4;obtain⟨_,_,_,e1,e2⟩:=jy q2;obtain⟨c,e,rfl,hc,hm,row⟩:=hO;have hlen:(x::l).length=vs.length:=hl.length;have h3:off+(x::l).length<=m:=aL.1 q3;have h4:m<=top:=aL.1 q5;have h5:∀y∈x::l,y.cj=true:=fun y hy=>List.all_eq_true.1 q6 y hy;have cQ:=NR (P:=P) (off:=off) (vs:=vs) hb ak<|Jc hl h5;obtain⟨g1,g2⟩:=Np (cs:=(c.toList.take off++vs++c.toList.drop (off+vs.length)).toArray) hb;refine⟨by rw[e2,cJ],_,cQ,?_,g1.below<|hB rfl⟩;rw[e1,hh];refine r.put ht hg rfl rfl hn rfl g1 g2 ?_;refine⟨_,e,rfl,(size_set ak).trans hc,hm,?_⟩;exact Row.set (ρ:=ρ) (c:=c) (n:=m) row hl h5 ak ak ak h4
  |_=>cases h2
theorem zA{i:Nat}(hl:l.length<=top)(hi:i<l.length):cellAt (Tr.fill l 0 .nil) [] i=l[i]? :=by unfold cellAt;rw[Tr.OC _ _ _ _ ak ak,if_pos ak];rw[Nat.sub_zero,List.getElem?_eq_getElem hi]
theorem NA(e:TypeId)(rest:List Value)(r:Rel B ρ s.h w)(hf:dJ s.nx s1.nx ρ)(h:newRow l s= .ok n s1)(hl:az ρ l vs):
 n=s.nx/\s1.nx=s.nx+1/\∃σ,Ext s.nx s1.nx ρ σ/\σ n=some (w.heap.size,vs.length+rest.length)/\
  (Go.newRow e (vs++rest).toArray).run P w= .ok ⟨w.heap.size,0,none⟩ {w with heap:=w.heap.push<|.cells (vs++rest).toArray e}/\
  Rel B σ s1.h {w with heap:=w.heap.push<|.cells (vs++rest).toArray e}:=by
 unfold newRow at h;obtain⟨q1,q2⟩:=cX h;obtain⟨q3,q4⟩:=and_true.1 q1;obtain⟨ht,rfl,rfl⟩:=vw q2;have h1:∀y∈l,y.cj=true:=fun y hy=>List.all_eq_true.1 q4 y hy;have h2:l.length<=top:=aL.1 q3;have hlen:=hl.length;have ji:ρ s.nx=none:=hf s.nx (Nat.le_refl _) (Nat.lt_succ_self _) ak;refine⟨rfl,rfl,eQ ρ s.nx (w.heap.size,vs.length+rest.length),Ext.mK ji,iQ _ _ _,rfl,?_⟩;refine r.new ht ji rfl ?_;refine⟨_,e,rfl,by simp,by omega,fun i hi=>?_⟩;obtain⟨x,hx⟩:∃x,l[i]? =some x:=⟨l[i]'hi,List.getElem?_eq_getElem hi⟩;obtain⟨v,hv,hr⟩:=hl.get i x hx;refine⟨x,v,by rw[zA h2 hi];exact hx,h1 x<|List.mem_of_getElem? hx,?_,hr.mono<|oD ji⟩;simp only[List.getElem?_toArray];rw[List.getElem?_append_left ak];exact hv
end Go.Rn
namespace Go.Rn
open Go.RowKit
variable {v:Value} {n off b sh N:Nat} {y a:Operand} {ty e:TypeId}
theorem Tm(ρ:aw){x:AV}(h:Ha v=some x):VR ρ x v:=by
 unfold Ha at h;split at h<;>first
  |(injection h with h;subst h;simp only[VR];done)
  |(cases h;done)
  |skip
 rename_i len cap;cases hb:(Nat.beq len 0&&Nat.beq cap 0) with
 |false=>rw[hb] at h;cases h
 |true=>
  rw[hb] at h;injection h with h;subst h
  obtain⟨a,b⟩:=and_true.1 hb;have a':=eA.1 a;have b':=eA.1 b;subst a';subst b';simp[VR]
theorem Nq(ρ:aw):∀{l:List Value} {x:List AV},xK l=some x->az ρ x l
 |[],x,h=>by simp only[xK] at h;injection h with h;subst h;simp only[az]
 |v::l,x,h=>by
  simp only[xK] at h;cases e:Ha v with
  |none=>rw[e] at h;cases h
  |some y=>
   simp only[e] at h;cases e2:xK l with
   |none=>simp only[e2] at h;cases h
   |some r=>
    simp only[e2] at h;injection h with h;subst h
    simp only[az];exact⟨v,l,rfl,Tm ρ e,Nq ρ e2⟩
theorem Nr(ρ:aw){x:AV}(h:ofValue v=some x):VR ρ x v:=by
 unfold ofValue at h;split at h
 ·rename_i cs;cases e:xK cs.toList with
  |none=>rw[e] at h;cases h
  |some l=>simp only[e] at h;injection h with h;subst h;simp only[VR];exact⟨cs,rfl,Nq ρ e⟩
 ·rename_i cs;cases e:xK cs.toList with
  |none=>rw[e] at h;cases h
  |some l=>simp only[e] at h;injection h with h;subst h;simp only[VR];exact⟨cs,rfl,Nq ρ e⟩
 ·exact Tm ρ h
def gk(ρ:aw):Prop:=∀g,g<fH->∃N,ρ g=some (g,N)
theorem gk.mono{ρ σ:aw}(h:gk ρ)(l:ρ.le σ):gk σ:=fun g hg=>let ⟨N,e⟩:=h g hg;⟨N,l _ _ e⟩
theorem D8{ρ:aw}{nt:Nat}{t:Tr AV}{a:Act}(k:TR ρ nt t a.tmps)(hg:gk ρ){x:Operand}{v:AV}(h:aK t x=some v):VR ρ v<|a.eval x:=by
 cases x with
 |tmp i=>exact k.2 i v h
 |const c=>exact Nr ρ h
 |global g=>
  have h': @Bool.rec (fun _=>Option AV) none (some<|.ptr<|some (g,0)) (Nat.blt g fH)=some v:=h;rw[zM] at h';by_cases e:g<fH
  ·rw[if_pos e] at h';injection h' with h';subst h'
   obtain⟨N,hN⟩:=hg g e;simp only[VR];exact⟨g,N,hN,rfl⟩
  ·rw[if_neg e] at h';cases h'
 |func f=>
  have h':some (AV.func (.func f) [] [])=some v:=h;injection h' with h';subst h'
  simp only[VR,az];exact⟨rfl, #[], #[],rfl,rfl,rfl⟩
theorem GM{ρ:aw}{ev:Operand->Option AV}{ec:Operand->Value}(he:∀x v,ev x=some v->VR ρ v (ec x)):∀{l:List Operand} {vs:List AV},jQ ev l=some vs->az ρ vs (l.map ec)
 |[],vs,h=>by simp only[jQ] at h;injection h with h;subst h;simp only[az,List.map_nil]
 |x::l,vs,h=>by
  simp only[jQ] at h;cases e:ev x with
  |none=>rw[e] at h;cases h
  |some y=>
   simp only[e] at h;cases e2:jQ ev l with
   |none=>simp only[e2] at h;cases h
   |some r=>
    simp only[e2] at h;injection h with h;subst h
    simp only[az,List.map_cons];exact⟨_,_,rfl,he x y e,GM he e2⟩
section
variable {P:Program} {w:World}
theorem de{t:TypeId}{d:TypeDesc}(h:P.underlying t=some d):(underlying t).run P w= .ok d w:=by simp[underlying,h]
theorem vp{t:TypeId}{i:TypeInfo}(h:P.info? t=some i):(typeInfo t).run P w= .ok i w:=by simp[typeInfo,h]
theorem gS{t:TypeId}{k:Nat}(h:eC P t=some k):(sizeOf t).run P w= .ok k w:=by
 unfold eC at h;cases e:P.info? t with
 |none=>rw[e] at h;cases h
 |some i=>simp only[e] at h;injection h with h;subst h;simp[sizeOf,vp e]
theorem Jk(ρ:aw){t:TypeId}{z:AV}(h:qK P t=some z):∃v,(zeroValue t).run P w= .ok v w/\VR ρ z v:=by
 unfold qK at h;cases e:P.info? t with
 |none=>rw[e] at h;cases h
 |some i=>
  simp only[e] at h;cases e2:i.zero with
  |none=>simp only[e2] at h;cases h
  |some v=>simp only[e2] at h;exact⟨v,by simp[zeroValue,vp e,e2],Nr ρ h⟩
theorem Bj{t:TypeId}{b:Bool}(h:qV P t=some b):(isAgg t).run P w= .ok b w:=by
 unfold qV at h;split at h<;>first|(cases h;done)|skip
 ·rename_i fs e;injection h with h;subst h;simp[isAgg,de e]
 ·rename_i n m e;injection h with h;subst h;simp[isAgg,de e]
 ·rename_i d h1 h2 e;injection h with h;subst h
  simp only[isAgg,Sem.run_bind,de e,Result.andThen_ok];cases d<;>first|rfl|(exact absurd e<|h1 _)|(exact absurd e<|h2 _ _)
end
theorem Addr.qE(b o j:Nat):(Addr.mk b o none).add j=⟨b,o+j,none⟩:=by
 unfold Addr.add;by_cases q:j=0
 ·subst q;simp
 ·rw[if_neg q]
def gh(P:Program)(B:aJ)(ρ:aw)(s s1:AS)(w:World)(x:AV)(c:Sem Next):Prop:=∃σ w' nv,Ext s.nx s1.nx ρ σ/\c.run P w= .ok nv w'/\(match nv with| .value v=>VR σ x v| .skip=>x=nj|_=>False)/\Rel B σ s1.h w'/\cP B w w'
def jR(P:Program)(B:aJ)(ρ:aw)(s s1:AS)(w:World)(x:AV)(c:Sem Value):Prop:=∃σ w' v,Ext s.nx s1.nx ρ σ/\c.run P w= .ok v w'/\VR σ x v/\Rel B σ s1.h w'/\cP B w w'
theorem jR.op{P:Program}{B:aJ}{ρ:aw}{s s1:AS}{w:World}{x:AV}{c:Sem Value}(h:jR P B ρ s s1 w x c):gh P B ρ s s1 w x (do pure (.value<|←c)):=by obtain⟨σ,w',v,a,b,d,e,f⟩:=h;exact⟨σ,w',.value v,a,by simp[b],d,e,f⟩
section
variable {P:Program} {B:aJ} {ρ:aw} {w:World} {s s1:AS}
theorem S5{t:TypeId}{x:AV}(fi:bE s)(r:Rel B ρ s.h w)(h:loadVar P t n off s= .ok x s1)(hn:ρ n=some (b,N)):
 s1.h=s.h/\s1.nx=s.nx/\∃v,(Go.loadVar t ⟨b,off,none⟩).run P w= .ok v w/\VR ρ x v:=by
 unfold loadVar at h;obtain⟨ag,h1,h2⟩:=bu h;cases ag with
 |true=>
  obtain⟨k,h3,h4⟩:=bu h2;obtain⟨l,s2,h5,h6⟩:=M.aR h4;obtain⟨rfl,rfl⟩:=bH h6;obtain⟨a1,a2,a3,a4,vs,a5,a6,_⟩:=zy (P:=P) fi r h5 hn;refine⟨a1,a2,.agg vs.toArray,?_,?_⟩
  ·simp[Go.loadVar,Bj h1,gS h3,a5]
  ·simp only[VR];exact⟨_,rfl,by simpa using a6⟩
 |false=>
  obtain⟨l,s2,h5,h6⟩:=M.aR h2;obtain⟨q,rfl⟩:=gT h6;obtain⟨a1,a2,a3,a4,vs,a5,a6,a7⟩:=zy (P:=P) fi r h5 hn;unfold one at q;split at q
  ·rename_i y;injection q with q;subst q
   simp only[az] at a6;obtain⟨v,ys,rfl,hv,rfl⟩:=a6;have hc:=a7 0 v rfl;refine⟨a1,a2,v,?_,hv⟩;simp only[Go.loadVar,Sem.run_bind,Bj h1,Result.andThen_ok];simp[show w.cell? ⟨b,off,none⟩=some v from by simpa using hc]
  ·cases q
theorem aaW{t:TypeId}{x:AV}(fi:bE s)(r:Rel B ρ s.h w)(h:xL P t n off s= .ok x s1)(hn:ρ n=some (b,sh)):
 s1.h=s.h/\s1.nx=s.nx/\∃v,(Go.loadVar t ⟨b,sh+off,none⟩).run P w= .ok v w/\VR ρ x v:=by
 unfold xL at h;obtain⟨ag,h1,h2⟩:=bu h;cases ag with
 |true=>cases h2
 |false=>
  obtain⟨ob,s2,h3,h4⟩:=M.aR h2;obtain⟨hx,hg,hh,cJ⟩:=fY h3;have ht:n<top:=Nat.lt_of_lt_of_le hx fi.nx;obtain⟨o',hb,hO,_⟩:=r.block ht hg hn;cases ob with
  |uj m tr=>
   obtain⟨q1,q2⟩:=cX h4;obtain⟨q3,rfl⟩:=gT q2;have cF:off<m:=by rw[←blt_eq];exact q1
   obtain⟨c,e,fr,rfl,row⟩:=hO;obtain⟨y,v,g1,g2,g3,g4⟩:=row off cF;rw[q3] at g1;injection g1 with g1;subst g1
   refine⟨hh,cJ,v,?_,g4⟩;have hc:w.cell? ⟨b,sh+off,none⟩=some v:=by simp only[World.cell?,hb];exact g3
   simp only[Go.loadVar,Sem.run_bind,Bj h1,Result.andThen_ok];simp[hc]
  |_=>cases h4
def B0(B:aJ)(SI:aO):Prop:=∀(n o k:Nat) (x:AV) (s s1:AS) (ρ:aw) (w:World),bE s->Rel B ρ s.h w->SI (.row n o k) [] s= .ok x s1->s1.h=s.h/\s1.nx=s.nx/\∀b sh,ρ (hn n b sh)≠none->∃l vs,x= .agg l/\vs.length=k/\az ρ l vs/\∃c e fr,w.heap[b]? =some (.cells c e fr)/\∀(j:Nat) (v:Value),vs[j]? =some v->c[sh+o+j]? =some v
theorem abh{t:TypeId}{x:AV}{SI:aO}(eN:B0 B SI)(fi:bE s)(r:Rel B ρ s.h w)(h:vD P t SI n off s= .ok x s1)(hn:ρ (hn n b sh)≠none):
 s1.h=s.h/\s1.nx=s.nx/\∃v,(Go.loadVar t ⟨b,sh+off,none⟩).run P w= .ok v w/\VR ρ x v:=by
 unfold vD at h;obtain⟨ag,h1,h2⟩:=bu h;obtain⟨k,h3,h4⟩:=bu h2;obtain⟨y,s2,h5,h6⟩:=M.aR h4;obtain⟨a1,a2,eN⟩:=eN _ _ _ _ _ _ _ _ fi r h5;obtain⟨l,vs,rfl,a3,a5,c,e,fr,a6,a7⟩:=eN b sh hn;have mV:∀(j:Nat) (v:Value),vs[j]? =some v->w.cell? ⟨b,sh+off+j,none⟩=some v:=fun j v hj=>by simp only[World.cell?,a6];exact a7 j v hj
 cases ag with
 |true=>
  obtain⟨rfl,rfl⟩:=bH h6;have Hw:=JJ (P:=P) (w:=w) a6 a7;rw[a3] at Hw;refine⟨a1,a2,.agg vs.toArray,?_,?_⟩
  ·simp[Go.loadVar,Bj h1,gS h3,Hw]
  ·simp only[VR];exact⟨_,rfl,by simpa using a5⟩
 |false=>
  obtain⟨q,rfl⟩:=gT h6;unfold one at q;split at q
  ·rename_i y;injection q with q;subst q
   simp only[az] at a5;obtain⟨v,ys,rfl,hv,rfl⟩:=a5;have hc:=mV 0 v rfl;refine⟨a1,a2,v,?_,hv⟩;simp only[Go.loadVar,Sem.run_bind,Bj h1,Result.andThen_ok];simp[show w.cell? ⟨b,sh+off,none⟩=some v from by simpa using hc]
  ·cases q
theorem aaH{t:TypeId}{x:AV}{u:Unit}(fi:bE s)(r:Rel B ρ s.h w)(h:storeVar P t n off x s= .ok u s1)(hn:ρ n=some (b,N))(hv:VR ρ x v):
 s1.nx=s.nx/\∃w',(Go.storeVar t ⟨b,off,none⟩ v).run P w= .ok () w'/\Rel B ρ s1.h w'/\cP B w w':=by
 unfold storeVar at h;obtain⟨k,h1,h2⟩:=bu h;obtain⟨h3,h4⟩:=cX h2;obtain⟨a1,w',a2,a3,a4⟩:=Nc (P:=P) fi r h4 hn hv.cells;refine⟨a1,w',?_,a3,a4⟩;have hk:v.cells.size=k:=by have:=hv.cells.length;rw[eA.1 h3] at this;simpa using this.symm
 simp[Go.storeVar,gS h1,hk,a2]
theorem Tn{x:AV}(e:TypeId)(r:Rel B ρ s.h w)(hf:dJ s.nx s1.nx ρ)(h:newRow x.cells s= .ok n s1)(hv:VR ρ x v):
 ∃σ w' b N,Ext s.nx s1.nx ρ σ/\(Go.newVar e v).run P w= .ok ⟨b,0,none⟩ w'/\σ n=some (b,N)/\Rel B σ s1.h w'/\cP B w w':=by
 obtain⟨rfl,h1,σ,h2,h3,h4,h5⟩:=NA (P:=P) e [] r hf h hv.cells;refine⟨σ,_,_,_,h2,?_,h3,h5,(gX.alloc w _).below r.size⟩;have:(v.cells.toList++[]).toArray=v.cells:=by simp
 rw[this] at h4 ⊢;exact h4
end
theorem VR.D9{ρ:aw}{x:AV}{i:Int}(h:VR ρ x v)(hi:intOf x=some i):∃k,x= .int k i/\v= .int k i:=by
 cases x<;>simp only[intOf] at hi<;>first|(cases hi;done)|skip
 rename_i k n;injection hi with hi;subst hi
 simp only[VR] at h;exact⟨k,rfl,h⟩
theorem VR.UL{ρ:aw}{x:AV}{b:Bool}(h:VR ρ x v)(hi:xU x=some b):v= .bool b:=by
 cases x<;>simp only[xU] at hi<;>first|(cases hi;done)|skip
 injection hi with hi;subst hi
 simp only[VR] at h;exact h
theorem VR.OE{ρ:aw}{x:AV}{a:Nat×Nat}(h:VR ρ x v)(hi:addrOf x=some a):∃b N,ρ a.1=some (b,N)/\v= .pointer (some ⟨b,a.2,none⟩):=by
 unfold addrOf at hi;split at hi
 ·injection hi with hi;subst hi
  rename_i a;obtain⟨n,o⟩:=a;simp only[VR] at h;exact h
 ·cases hi
section
variable {P:Program} {B:aJ} {ρ:aw} {w:World} {s s1:AS} {x:AV} {SI:aO} {t:Tr AV} {ev:Operand->Value} {o:Oper}
theorem TY(he:∀x v,aK t x=some v->VR ρ v (ev x))(r:Rel B ρ s.h w)(h:vX y SI t s= .ok x s1)(ho:o.op= .move y\/o.op= .assign y):gh P B ρ s s1 w x<|execOp ev o:=by obtain⟨h1,rfl⟩:=gT (show lift (aK t y) s= .ok x s1 from h);refine⟨ρ,w,.value<|ev y,Ext.refl _ _ _,?_,he y x h1,r,cP.refl _ _⟩;rcases ho with ho|ho<;>simp[execOp,ho]
theorem aca{c b:Operand}(he:∀x v,aK t x=some v->VR ρ v (ev x))(r:Rel B ρ s.h w)(h:Ch c a b SI t s= .ok x s1)(ho:o.op= .pick c a b):gh P B ρ s s1 w x<|execOp ev o:=by
 unfold Ch at h;obtain⟨v,h1,h2⟩:=bu h;obtain⟨q,h3,h4⟩:=bu h2;obtain⟨va,h5,h6⟩:=bu h4;obtain⟨vb,h7,h8⟩:=bu h6;have hc:=(he c v h1).UL h3;cases q with
 |true=>obtain⟨rfl,rfl⟩:=bH h8;exact⟨ρ,w,.value<|ev a,Ext.refl _ _ _,by simp[execOp,ho,hc,asBool],he a _ h5,r,cP.refl _ _⟩
 |false=>obtain⟨rfl,rfl⟩:=bH h8;exact⟨ρ,w,.value<|ev b,Ext.refl _ _ _,by simp[execOp,ho,hc,asBool],he b _ h7,r,cP.refl _ _⟩
theorem abi(r:Rel B ρ s.h w)(hf:dJ s.nx s1.nx ρ)(h:Ks P e SI t s= .ok x s1)(ho:o.op= .alloc e):gh P B ρ s s1 w x<|execOp ev o:=by
 unfold Ks at h;obtain⟨z,h1,h2⟩:=bu h;obtain⟨n,s2,h3,h4⟩:=M.aR h2;obtain⟨rfl,rfl⟩:=bH h4;obtain⟨v,h5,h6⟩:=Jk (P:=P) (w:=w) ρ h1;obtain⟨σ,w',b,N,a1,a2,a3,a4,a5⟩:=Tn (P:=P) e r hf h3 h6;refine⟨σ,w',.value<|.pointer<|some ⟨b,0,none⟩,a1,?_,?_,a4,a5⟩
 ·simp[execOp,ho,Instr.alloc,h5,a2]
 ·simp only[VR];exact⟨b,N,a3,rfl⟩
theorem adk(he:∀x v,aK t x=some v->VR ρ v (ev x))(r:Rel B ρ s.h w)(hf:dJ s.nx s1.nx ρ)(h:Cw y SI t s= .ok x s1)(ho:o.op= .box e y):gh P B ρ s s1 w x<|execOp ev o:=by
 unfold Cw at h;obtain⟨z,h1,h2⟩:=bu h;obtain⟨n,s2,h3,h4⟩:=M.aR h2;obtain⟨rfl,rfl⟩:=bH h4;obtain⟨σ,w',b,N,a1,a2,a3,a4,a5⟩:=Tn (P:=P) e r hf h3<|he y z h1;refine⟨σ,w',.value<|.pointer<|some ⟨b,0,none⟩,a1,?_,?_,a4,a5⟩
 ·simp[execOp,ho,Instr.box,a2]
 ·simp only[VR];exact⟨b,N,a3,rfl⟩
theorem acb(eN:B0 B SI)(he:∀x v,aK t x=some v->VR ρ v (ev x))(fi:bE s)(r:Rel B ρ s.h w)(h:uk P ty a SI t s= .ok x s1)(ho:o.op= .load ty a):gh P B ρ s s1 w x<|execOp ev o:=by
 unfold uk at h;obtain⟨v,h1,h2⟩:=bu h;unfold loadAt at h2;split at h2
 ·rename_i n q;have hv:=he a _ h1;simp only[VR] at hv;obtain⟨b,sh,h5,h6⟩:=hv;have main:s1.h=s.h/\s1.nx=s.nx/\∃v,(Go.loadVar ty ⟨b,sh+q,none⟩).run P w= .ok v w/\VR ρ x v:=by
   cases hb:Nat.ble top n with
   |true=>rw[hb] at h2;exact abh eN fi r h2<|h5.high<|aL.1 hb
   |false=>rw[hb] at h2;exact aaW (P:=P) fi r h2 (h5.low fun q=>by rw[aL.2 q] at hb;cases hb)
  obtain⟨a1,a2,u,a3,a4⟩:=main;refine⟨ρ,w,.value u,Ext.refl _ _ _,?_,a4,by rw[a1];exact r,cP.refl _ _⟩;simp[execOp,ho,Instr.loadAt,Instr.sureAddr,h6,a3]
 ·obtain⟨ad,h3,h4⟩:=bu h2;obtain⟨b,N,h5,h6⟩:=(he a v h1).OE h3;obtain⟨a1,a2,u,a3,a4⟩:=S5 (P:=P) fi r h4 h5;refine⟨ρ,w,.value u,Ext.refl _ _ _,?_,a4,by rw[a1];exact r,cP.refl _ _⟩;simp[execOp,ho,Instr.loadAt,Instr.sureAddr,h6,a3]
theorem abj(he:∀x v,aK t x=some v->VR ρ v (ev x))(fi:bE s)(r:Rel B ρ s.h w)(h:xX P ty a y SI t s= .ok x s1)(ho:o.op= .store ty a y):gh P B ρ s s1 w x<|execOp ev o:=by unfold xX at h;obtain⟨v,h1,h2⟩:=bu h;obtain⟨ad,h3,h4⟩:=bu h2;obtain⟨z,h5,h6⟩:=bu h4;obtain⟨u,s2,h7,h8⟩:=M.aR h6;obtain⟨rfl,rfl⟩:=bH h8;obtain⟨b,N,h9,gH⟩:=(he a v h1).OE h3;obtain⟨a1,w',a2,a3,a4⟩:=aaH (P:=P) fi r h7 h9<|he y z h5;refine⟨ρ,w',.skip,Ext.refl _ _ _,?_,rfl,a3,a4⟩;simp[execOp,ho,Instr.storeAt,Instr.sureAddr,gH,a2]
theorem aax(he:∀x v,aK t x=some v->VR ρ v (ev x))(r:Rel B ρ s.h w)(h:Bp y SI t s= .ok x s1)(ho:o.op= .nilCheck y):gh P B ρ s s1 w x<|execOp ev o:=by
 unfold Bp at h;obtain⟨v,h1,h2⟩:=bu h;obtain⟨h3,h4⟩:=cX h2;obtain⟨rfl,rfl⟩:=bH h4;have hv:=he y _ h1;refine⟨ρ,w,.value<|ev y,Ext.refl _ _ _,?_,hv,r,cP.refl _ _⟩;simp only[execOp,ho];generalize ev y=v at hv;cases x<;>(try simp only[VR] at hv)<;>(try (subst hv;first|(simp[notNil] at h3;done)|rfl))
 case ptr a=>
  cases a with
  |none=>simp[notNil] at h3
  |some a=>obtain⟨n,q⟩:=a;simp only[VR] at hv;obtain⟨_,_,_,rfl⟩:=hv;rfl
 case ab n o l=>rcases hv with⟨_,_,_,_,rfl,_⟩|⟨_,_,_,_,rfl,_⟩<;>rfl
 case p9 n o=>obtain⟨_,_,_,rfl⟩:=hv;rfl
 case slice a len cap=>
  have:∃p q r,v= .slice p q r:=by
   cases a with
   |none=>cases cap<;>simp only[VR] at hv;exact⟨_,_,_,hv.1⟩
   |some a=>
    obtain⟨n,q⟩:=a;cases cap<;>simp only[VR] at hv
    ·obtain⟨_,_,_,rfl⟩:=hv;exact⟨_,_,_,rfl⟩
    ·obtain⟨_,_,_,_,rfl,_⟩:=hv;exact⟨_,_,_,rfl⟩
    ·obtain⟨_,_,_,_,_,_,rfl⟩:=hv;exact⟨_,_,_,rfl⟩
  obtain⟨_,_,_,rfl⟩:=this;rfl
 case map a=>
  cases a with
  |none=>simp only[VR] at hv;subst hv;rfl
  |some a=>simp only[VR] at hv;obtain⟨_,_,_,rfl⟩:=hv;rfl
 case func fn f c=>obtain⟨_,_,_,rfl,_⟩:=hv;cases fn<;>first|rfl|(simp[notNil] at h3)
 case yield l=>obtain⟨_,_,_,rfl⟩:=hv;rfl
 case iface ty y=>obtain⟨_,rfl,_⟩:=hv;rfl
 case agg l=>obtain⟨_,rfl,_⟩:=hv;rfl
 case tuple l=>obtain⟨_,rfl,_⟩:=hv;rfl
end
end Go.Rn
namespace Go.Rn
open Go.RowKit
variable {ty:TypeId} {ps:List<|Nat×AV} {parts:Array<|Nat×Operand}
theorem az.set{ρ:aw}:∀{x:List AV} {v:List Value} {i:Nat} {a:AV} {b:Value},az ρ x v->VR ρ a b->az ρ (x.set i a) (v.set i b)
 |[],_,_,_,_,h,_=>by simp only[az] at h;subst h;simp[az]
 |y::ys,_,0,_,_,h,k=>by simp only[az] at h;obtain⟨z,zs,rfl,p,q⟩:=h;simp only[List.set_cons_zero,az];exact⟨_,_,rfl,k,q⟩
 |y::ys,_,i+1,_,_,h,k=>by simp only[az] at h;obtain⟨z,zs,rfl,p,q⟩:=h;simp only[List.set_cons_succ,az];exact⟨_,_,rfl,p,q.set k⟩
def wq:List Value->List Value->Nat->List Value
 |cs,[],_=>cs
 |cs,c::l,off=>wq (cs.set off c) l<|off+1
theorem SQ{ρ:aw}:∀{l:List AV} {vs:List Value} {cs:List AV} {ds:List Value} {off:Nat},az ρ l vs->az ρ cs ds->az ρ (GI cs l off) (wq ds vs off)
 |[],_,_,_,_,h,k=>by simp only[az] at h;subst h;exact k
 |x::l,_,cs,ds,off,h,k=>by simp only[az] at h;obtain⟨y,ys,rfl,p,q⟩:=h;show az ρ (GI (cs.set off x) l<|off+1)<|wq (ds.set off y) ys<|off+1;exact SQ (l:=l) q<|k.set p
theorem TZ(off:Nat):∀(l:List Value) (k:Nat) (cs:Array Value),
 ((l.zipIdx k).foldl (fun(cs:Array Value) (x:Value×Nat)=>cs.setIfInBounds (off+x.2) x.1) cs).toList=wq cs.toList l (off+k)
 |[],k,cs=>rfl
 |c::l,k,cs=>by simp only[List.zipIdx_cons,List.foldl_cons,wq];rw[TZ off l (k+1) _];simp[Nat.add_assoc]
def wN(ρ:aw):List (Nat×AV)->List (Nat×Value)->Prop
 |[],l=>l=[]
 |x::xs,l=>∃y ys,l=y::ys/\x.1=y.1/\VR ρ x.2 y.2/\wN ρ xs ys
theorem NS{ρ:aw}{ev:Operand->Option AV}{ec:Operand->Value}(he:∀x v,ev x=some v->VR ρ v (ec x)):∀{l:List<|Nat×Operand} {vs:List<|Nat×AV},vW ev l=some vs->wN ρ vs (l.map fun(i,x)=>(i,ec x))
 |[],vs,h=>by simp only[vW] at h;injection h with h;subst h;simp only[wN,List.map_nil]
 |(i,x)::l,vs,h=>by
  simp only[vW] at h;cases e:ev x with
  |none=>rw[e] at h;cases h
  |some y=>
   simp only[e] at h;cases e2:vW ev l with
   |none=>simp only[e2] at h;cases h
   |some r=>
    simp only[e2] at h;injection h with h;subst h
    simp only[wN,List.map_cons];exact⟨_,_,rfl,rfl,he x y e,NS he e2⟩
theorem JK{ρ:aw}{place:Nat->Option (Nat×Nat)}:∀{ps:List<|Nat×AV} {qs:List<|Nat×Value} {cs l:List AV} {ds:Array Value},wN ρ ps qs->az ρ cs ds.toList->xV place cs ps=some l->
 ∃es,Instr.fill place ds qs=some es/\az ρ l es.toList
 |[],qs,cs,l,ds,h,k,e=>by
  simp only[wN] at h;subst h;simp only[xV] at e;injection e with e;subst e
  exact⟨ds,rfl,k⟩
 |(i,v)::ps,qs,cs,l,ds,h,k,e=>by
  simp only[wN] at h;obtain⟨⟨i',v'⟩,ys,rfl,hi,hv,hr⟩:=h;simp only at hi hv;subst hi;simp only[xV] at e;cases e1:place i with
  |none=>simp only[e1] at e;cases e
  |some p=>
   obtain⟨off,size⟩:=p;simp only[e1] at e;cases e2:(Nat.beq v.cells.length size&&Nat.ble (off+v.cells.length) cs.length) with
   |false=>simp only[e2] at e;cases e
   |true=>
    simp only[e2] at e;obtain⟨a,b⟩:=and_true.1 e2;have a:=eA.1 a;have b:=aL.1 b;have hc:=hv.cells;have l1:=hc.length;have l2:=k.length;simp only[Array.length_toList] at l1 l2;have HQ:az ρ (GI cs v.cells off) (v'.cells.zipIdx.foldl (fun(cs:Array Value) (x:Value×Nat)=>cs.setIfInBounds (off+x.2) x.1) ds).toList:=by rw[←Array.foldl_toList,Array.toList_zipIdx,TZ off _ 0 ds];exact SQ hc k
    obtain⟨es,g1,g2⟩:=JK hr HQ e;refine⟨es,?_,g2⟩;simp only[Instr.fill,e1];rw[if_neg wK];exact g1
theorem S6{P:Program}:∀{fs:List Field} {pl:List<|Nat×Nat},BG P fs=some pl->fs.mapM (fun f=>(P.info? f.type).map fun i=>(f.offset,i.size))=some pl
 |[],pl,h=>by simp only[BG] at h;injection h with h;subst h;rfl
 |f::fs,pl,h=>by
  simp only[BG,eC] at h;cases e:P.info? f.type with
  |none=>simp only[e] at h;cases h
  |some i=>
   simp only[e] at h;cases e2:BG P fs with
   |none=>simp only[e2] at h;cases h
   |some r=>
    simp only[e2] at h;injection h with h;subst h
    simp[List.mapM_cons,e,S6 e2]
theorem abk{P:Program}(ρ:aw){t:TypeId}{z:AV}(h:qK P t=some z):∃i v,P.info? t=some i/\i.zero=some v/\VR ρ z v:=by
 unfold qK at h;cases e:P.info? t with
 |none=>rw[e] at h;cases h
 |some i=>
  simp only[e] at h;cases e2:i.zero with
  |none=>simp only[e2] at h;cases h
  |some v=>simp only[e2] at h;exact⟨i,v,rfl,e2,Nr ρ h⟩
section
variable {P:Program} {B:aJ} {ρ:aw} {w:World} {s s1:AS} {x:AV} {SI:aO} {t:Tr AV} {ev:Operand->Value} {o:Oper}
theorem acd{qs:List<|Nat×Value}(hp:wN ρ ps qs)(h:build P ty ps=some x):∃cells,P.built ty qs=some cells/\VR ρ x (.agg cells):=by
 unfold build at h;cases ez:qK P ty with
 |none=>simp only[ez] at h;cases h
 |some z=>
  obtain⟨i,v,h1,h2,h3⟩:=abk ρ ez;simp only[ez] at h;cases eu:P.underlying ty with
  |none=>simp only[eu] at h;cases h
  |some d=>
   cases d<;>simp only[eu] at h<;>first|(cases h;done)|skip
   case array n e=>
    cases ek:eC P e with
    |none=>simp only[ek] at h;cases h
    |some k=>
     simp only[ek] at h;cases ef:xV (fun i=>some (i*k,k)) z.cells ps with
     |none=>simp only[ef] at h;cases h
     |some l=>
      simp only[ef] at h;injection h with h;subst h
      obtain⟨es,g1,g2⟩:=JK hp h3.cells ef;unfold eC at ek;cases ei:P.info? e with
      |none=>rw[ei] at ek;cases ek
      |some ie=>
       simp only[ei] at ek;injection ek with ek;subst ek
       refine⟨es,?_,by simp only[VR];exact⟨_,rfl,g2⟩⟩;simp only[Program.built,h1,eu,h2,ei];exact g1
   case struct fs=>
    cases ek:BG P fs.toList with
    |none=>simp only[ek] at h;cases h
    |some pl=>
     simp only[ek] at h;cases ef:xV (fun i=>pl[i]?) z.cells ps with
     |none=>simp only[ef] at h;cases h
     |some l=>
      simp only[ef] at h;injection h with h;subst h
      obtain⟨es,g1,g2⟩:=JK hp h3.cells ef;refine⟨es,?_,by simp only[VR];exact⟨_,rfl,g2⟩⟩;simp only[Program.built,h1,eu,h2,S6 ek];simpa using g1
theorem abl(he:∀x v,aK t x=some v->VR ρ v (ev x))(r:Rel B ρ s.h w)(h:BV P ty parts.toList SI t s= .ok x s1)(ho:o.op= .build ty parts):gh P B ρ s s1 w x<|execOp ev o:=by
 unfold BV at h;obtain⟨ps,h1,h2⟩:=bu h;obtain⟨h3,rfl⟩:=gT h2;have hp:=NS he h1;obtain⟨cells,g1,g2⟩:=acd (P:=P) hp h3;refine⟨ρ,w,.value<|.agg cells,Ext.refl _ _ _,?_,g2,r,cP.refl _ _⟩;have C1:P.built ty (parts.map fun(i,x)=>(i,ev x)).toList=some cells:=by rw[Array.toList_map];exact g1
 simp only[execOp,ho,Sem.run_bind,run_build w ty _ cells C1,Result.andThen_ok];rfl
theorem SR{z:List AV}{vs:List Value}(h:az ρ z vs):∀n,az ρ (GJ n z) (List.replicate n vs).flatten
 |0=>by simp[GJ,az]
 |n+1=>by simp only[GJ,List.replicate_succ,List.flatten_cons];exact h.append<|SR h n
theorem To{vs:List Value}:∀(n i:Nat),i<n*vs.length->(List.replicate n vs).flatten[i]? =vs[i % vs.length]?
 |0,i,h=>by omega
 |n+1,i,h=>by
  rw[List.replicate_succ,List.flatten_cons];by_cases q:i<vs.length
  ·rw[List.getElem?_append_left q,Nat.mod_eq_of_lt q]
  ·have hs:(n+1)*vs.length=n*vs.length+vs.length:=by rw[Nat.succ_mul]
   rw[List.getElem?_append_right ak,To n _ ak];rw[←Nat.mod_eq_sub_mod ak]
theorem abm{zs:Array Value}{n:Nat}:(Array.range<|n*zs.size).map (fun i=>zs[i % zs.size]!)=(List.replicate n zs.toList).flatten.toArray:=by
 apply Array.ext_getElem?;intro i;have hlen:(List.replicate n zs.toList).flatten.length=n*zs.size:=by simp
 by_cases q:i<n*zs.size
 ·have hz:0<zs.size:=by
   rcases Nat.eq_zero_or_pos zs.size with h0|h0
   ·rw[h0] at q;omega
   ·exact h0
  have hm:i % zs.size<zs.size:=Nat.mod_lt _ hz;have hr:(List.replicate n zs.toList).flatten.toArray[i]? =zs.toList[i % zs.toList.length]? :=by rw[List.getElem?_toArray];exact To n i (by rw[Array.length_toList];exact q)
  rw[hr];simp[q,getElem!_pos zs (i % zs.size) hm,Array.getElem?_eq_getElem hm]
 ·have hr:(List.replicate n zs.toList).flatten.toArray[i]? =none:=by rw[List.getElem?_toArray];exact List.getElem?_eq_none (by rw[hlen];omega)
  rw[hr,Array.getElem?_eq_none wK]
theorem aar{len:Nat}{qs:Array<|Nat×Value}(hp:wN ρ ps qs.toList)(r:Rel B ρ s.h w)(hf:dJ s.nx s1.nx ρ)(h:buildSlice P ty len ps s= .ok x s1):
 jR P B ρ s s1 w x (Instr.buildSlice ty len qs):=by
 unfold buildSlice at h;cases eu:P.underlying ty with
 |none=>simp only[eu] at h;cases h
 |some d=>
  cases d<;>simp only[eu] at h<;>first|(cases h;done)|skip
  rename_i e;simp only[bind_eq,aeI] at h;obtain⟨k,s2,h1,h2⟩:=M.aR h;obtain⟨yS,rfl⟩:=gT h1;obtain⟨z,s3,h3,h4⟩:=M.aR h2;obtain⟨Rp,rfl⟩:=gT h3;obtain⟨u,s4,h5,h6⟩:=M.aR h4;have Rq:(Nat.ble (len*k) 1048576&&Nat.beq z.cells.length k)=true/\s4=s3:=by
   cases hb:(Nat.ble (len*k) 1048576&&Nat.beq z.cells.length k) with
   |false=>rw[hb] at h5;cases h5
   |true=>rw[hb] at h5;cases h5;exact⟨rfl,rfl⟩
  obtain⟨Rq,rfl⟩:=Rq;obtain⟨l,s5,h7,h8⟩:=M.aR h6;obtain⟨C2,rfl⟩:=gT h7;obtain⟨n,s6,h9,gH⟩:=M.aR h8;obtain⟨rfl,rfl⟩:=bH gH;obtain⟨a,b⟩:=and_true.1 Rq;have a:=aL.1 a;have b:=eA.1 b;obtain⟨vz,g1,g2⟩:=Jk (P:=P) (w:=w) ρ Rp;have hlen:=g2.cells.length;simp only[Array.length_toList] at hlen;have zU:(Array.range<|len*k).map (fun i=>(if len*k=0 then(#[]:Array Value) else vz.cells)[i % (if len*k=0 then(#[]:Array Value) else vz.cells).size]!)=(List.replicate len vz.cells.toList).flatten.toArray:=by
   by_cases q:len*k=0
   ·rw[q];have:(List.replicate len vz.cells.toList).flatten=[]:=by
     apply List.length_eq_zero_iff.1;have e1:(List.replicate len vz.cells.toList).flatten.length=len*vz.cells.size:=by simp
     rw[e1, ←hlen,b];exact q
    simp[this]
   ·simp only[if_neg q];have:k=vz.cells.size:=by omega
    subst this;exact abm
  obtain⟨es,f1,f2⟩:=JK (ds:=(List.replicate len vz.cells.toList).flatten.toArray) hp (by simpa using SR g2.cells len) C2;obtain⟨rfl,n1,σ,e1,e2,e3,e4⟩:=NA (P:=P) e [] r hf h9 f2;refine⟨σ,_,.slice (some ⟨w.heap.size,0,none⟩) len len,e1,?_,?_,e4,(gX.alloc w _).below r.size⟩
  ·have hes:(es.toList++[]).toArray=es:=by simp
   rw[hes] at e3 e4 ⊢;have Rr:¬(len*k>2 ^ 24):=by omega
   simp only[Instr.buildSlice,Sem.run_bind,de eu,Result.andThen_ok,gS yS];rw[if_neg Rr];by_cases q:len*k=0
   ·rw[if_pos q];simp only[if_pos q] at zU;simp only[Sem.run_bind,Sem.run_pure,Result.andThen_ok,zU,f1,e3]
   ·rw[if_neg q];simp only[if_neg q] at zU;simp only[Sem.run_bind,Sem.run_pure,Result.andThen_ok,g1,zU,f1,e3]
  ·simp only[VR];exact⟨_,_,e2,rfl⟩
theorem aap{len:Nat}(he:∀x v,aK t x=some v->VR ρ v (ev x))(r:Rel B ρ s.h w)(hf:dJ s.nx s1.nx ρ)(h:Bk P ty len parts.toList SI t s= .ok x s1)(ho:o.op= .buildSlice ty len parts):gh P B ρ s s1 w x<|execOp ev o:=by
 unfold Bk at h;obtain⟨ps,h1,h2⟩:=bu h;have hp:wN ρ ps (parts.map fun(i,x)=>(i,ev x)).toList:=by rw[Array.toList_map];exact NS he h1
 have:=(aar (P:=P) hp r hf h2).op;simpa only[execOp,ho] using this
end
end Go.Rn
namespace Go.Rn
open Go.RowKit
section
variable {P:Program} {B:aJ} {ρ:aw} {w:World} {s s1:AS} {x:AV} {SI:aO} {t:Tr AV} {ev:Operand->Value} {o:Oper}
theorem Gq{ty:TypeId}{cs:List AV}{ds:Array Value}{off:Nat}(hc:az ρ cs ds.toList)(h:vV P ty cs off=some x):∃v,(part ty ds off).run P w= .ok v w/\VR ρ x v:=by
 unfold vV at h;cases ea:qV P ty with
 |none=>simp only[ea] at h;cases h
 |some b=>
  simp only[ea] at h;cases b with
  |true=>
   cases ek:eC P ty with
   |none=>simp only[ek] at h;cases h
   |some k=>
    simp only[ek] at h;injection h with h;subst h
    refine⟨.agg<|ds.extract off<|off+k,?_,?_⟩
    ·simp[part,Bj ea,gS ek]
    ·simp only[VR];refine⟨_,rfl,?_⟩;have:(ds.extract off<|off+k).toList=(ds.toList.drop off).take k:=by simp[List.extract]
     rw[this];exact(hc.drop off).take k
  |false=>
   obtain⟨v,hv,hr⟩:=hc.get off x h;refine⟨v,?_,hr⟩;have jJ:ds[off]? =some v:=by simpa using hv
   simp[part,Bj ea,jJ]
theorem bytes_beq(a b:ByteArray):(a == b)=(a.toList == b.toList):=beq_toListBytes a b
theorem Nk{d:Nat}{eq:TypeId->AV->AV->Option Bool}(he:∀ty a b c v u,eq ty a b=some c->VR ρ a v->VR ρ b u->(Op.equalIn d ty v u).run P w= .ok c w){xs ys:List AV}{cs ds:Array Value}(hx:az ρ xs cs.toList)(hy:az ρ ys ds.toList):∀{fs:List Field} {b:Bool},eqFields P eq xs ys fs=some b->(Op.eqFields d cs ds fs).run P w= .ok b w
 |[],b,h=>by simp only[eqFields] at h;injection h with h;subst h;rfl
 |f::fs,b,h=>by
  simp only[eqFields] at h;cases en:(f.name == "_") with
  |true=>
   simp only[en] at h;have:¬(f.name≠ "_"):=by simpa using en
   rw[Op.eqFields,if_neg this];exact Nk he hx hy h
  |false=>
   simp only[en] at h;have cz:f.name≠ "_" :=by intro e;rw[e] at en;simp at en
   rw[Op.eqFields,if_pos cz];cases e1:vV P f.type xs f.offset with
   |none=>simp only[e1] at h;cases h
   |some a=>
    cases e2:vV P f.type ys f.offset with
    |none=>simp only[e1,e2] at h;cases h
    |some c=>
     simp only[e1,e2] at h;obtain⟨v,g1,g2⟩:=Gq (w:=w) hx e1;obtain⟨u,g3,g4⟩:=Gq (w:=w) hy e2;cases e3:eq f.type a c with
     |none=>simp only[e3] at h;cases h
     |some q=>
      simp only[e3] at h;have g5:=he _ _ _ _ _ _ e3 g2 g4;cases q with
      |false=>injection h with h;subst h;simp[g1,g3,g5]
      |true=>simp only[] at h;simp[g1,g3,g5,Nk he hx hy h]
theorem J2:∀{d:Nat} {ty:TypeId} {a b:AV} {c:Bool} {v u:Value},qo P d ty a b=some c->VR ρ a v->VR ρ b u->(Op.equalIn d ty v u).run P w= .ok c w
 |0,_,_,_,_,_,_,h,_,_=>by simp only[qo] at h;cases h
 |d+1,ty,a,b,c,v,u,h,ha,hb=>by
  simp only[qo] at h;split at h<;>first|(cases h;done)|skip
  ·rename_i p q eu;injection h with h;subst h;simp only[VR] at ha hb;subst ha;subst hb
   simp[Op.equalIn,de eu]
  ·rename_i k0 k p k' q eu;simp only[VR] at ha hb;subst ha;subst hb;cases hk:decide (k=k') with
   |false=>rw[hk] at h;cases h
   |true=>rw[hk] at h;injection h with h;subst h;simp[Op.equalIn,de eu,of_decide_eq_true hk]
  ·rename_i e q eu;injection h with h;subst h;simp only[VR] at ha;subst ha
   cases q with
   |none=>simp only[VR] at hb;subst hb;simp[Op.equalIn,de eu]
   |some q=>obtain⟨n,i⟩:=q;simp only[VR] at hb;obtain⟨_,_,_,rfl⟩:=hb;simp[Op.equalIn,de eu]
  ·rename_i e q eu;injection h with h;subst h;simp only[VR] at hb;subst hb
   obtain⟨n,i⟩:=q;simp only[VR] at ha;obtain⟨_,_,_,rfl⟩:=ha;simp[Op.equalIn,de eu]
  ·rename_i fs xs ys eu;cases hs:P.stoodInHeld ty with
   |true=>rw[hs] at h;cases h
   |false=>
    rw[hs] at h;simp only[VR] at ha hb;obtain⟨cs,rfl,hx⟩:=ha;obtain⟨ds,rfl,hy⟩:=hb;have hf:P.fieldsOf ty=fs:=by simp[Program.fieldsOf,eu]
    rw[run_equalIn_struct w d ty cs ds (by rw[hf];exact eu) hs,hf];exact Nk (fun ty a b c v u e p q=>J2 e p q) hx hy h
  ·rename_i e l1 c1 q l2 c2 eu;injection h with h;subst h
   have:∃k l,v= .slice none k l:=by cases c1<;>simp only[VR] at ha;exact⟨_,_,ha.1⟩
   obtain⟨_,_,rfl⟩:=this;cases q with
   |none=>
    have:∃k l,u= .slice none k l:=by cases c2<;>simp only[VR] at hb;exact⟨_,_,hb.1⟩
    obtain⟨_,_,rfl⟩:=this;simp[Op.equalIn,de eu]
   |some q=>
    obtain⟨n,i⟩:=q;have:∃p k l,u= .slice (some p) k l:=by
     cases c2<;>simp only[VR] at hb
     ·obtain⟨_,_,_,rfl⟩:=hb;exact⟨_,_,_,rfl⟩
     ·obtain⟨_,_,_,_,rfl,_⟩:=hb;exact⟨_,_,_,rfl⟩
     ·obtain⟨_,_,_,_,_,_,rfl⟩:=hb;exact⟨_,_,_,rfl⟩
    obtain⟨_,_,_,rfl⟩:=this;simp[Op.equalIn,de eu]
  ·rename_i e q l1 c1 l2 c2 eu;injection h with h;subst h
   have:∃k l,u= .slice none k l:=by cases c2<;>simp only[VR] at hb;exact⟨_,_,hb.1⟩
   obtain⟨_,_,rfl⟩:=this;obtain⟨n,i⟩:=q;have:∃p k l,v= .slice (some p) k l:=by
    cases c1<;>simp only[VR] at ha
    ·obtain⟨_,_,_,rfl⟩:=ha;exact⟨_,_,_,rfl⟩
    ·obtain⟨_,_,_,_,rfl,_⟩:=ha;exact⟨_,_,_,rfl⟩
    ·obtain⟨_,_,_,_,_,_,rfl⟩:=ha;exact⟨_,_,_,rfl⟩
   obtain⟨_,_,_,rfl⟩:=this;simp[Op.equalIn,de eu]
  ·rename_i e n o len l2 c2 eu;have:∃k l,u= .slice none k l:=by cases c2<;>simp only[VR] at hb;exact⟨_,_,hb.1⟩
   obtain⟨_,_,rfl⟩:=this;simp only[VR] at ha;have key:∃a k l,v= .slice a k l/\c=a.isNone:=by
    rcases ha with⟨_,rfl,a0,cc,rfl,hz⟩|⟨b,sh,cc,_,rfl,hc⟩
    ·refine⟨a0,_,_,rfl,?_⟩;unfold QM at h;simp only at h;split at h
     ·rename_i q;injection h with h;subst h;rw[hz.2.1<|Nat.eq_of_beq_eq_true q];rfl
     ·split at h
      ·rename_i q;injection h with h;subst h
       cases a0 with
       |none=>exact absurd rfl<|hz.2.2<|Nat.eq_of_beq_eq_true q
       |some _=>rfl
      ·cases h
    ·refine⟨_,_,_,rfl,?_⟩;unfold QM at h;split at h
     ·split at h
      ·rename_i q;have q:=Nat.eq_of_beq_eq_true q;exact absurd q (hc ak).2
      ·split at h
       ·injection h with h;subst h;rfl
       ·cases h
     ·injection h with h;subst h;rfl
   obtain⟨a,_,_,rfl,rfl⟩:=key;cases a<;>simp[Op.equalIn,de eu]
theorem ace{op:BinOp}{k:IntKind}{a b:Int}(hs:zK op=false)(h:EG op k a b=some x):∃v,(binOp op 0 (.int k a)<|.int k b).run P w= .ok v w/\VR ρ x v/\∀ty,binOp op ty (.int k a) (.int k b)=binOp op 0 (.int k a) (.int k b):=by
 cases op<;>simp only[EG] at h<;>first
  |(cases h;done)
  |(simp[zK] at hs;done)
  |(injection h with h;subst h;exact⟨_,by simp[binOp,Op.intArith,Op.intBits,Op.intCmp];first|rfl|done,by simp[VR],fun _=>rfl⟩)
  |(cases hd:decide (b=0) with
   |true=>rw[hd] at h;cases h
   |false=>
    rw[hd] at h;injection h with h;subst h
    exact⟨_,by simp[binOp,Op.intDiv,of_decide_eq_false hd];first|rfl|done,by simp[VR],fun _=>rfl⟩)
end
end Go.Rn
namespace Go.Rn
open Go.RowKit
variable {ty:TypeId} {v u:Value} {a b:AV} {y:Operand} {c:cM}
section
variable {P:Program} {B:aJ} {ρ:aw} {w:World} {s s1:AS} {x:AV} {SI:aO} {t:Tr AV} {ev:Operand->Value} {o:Oper}
theorem aaX{op:BinOp}{k k':IntKind}{a b:Int}(hs:zK op=true)(h:Pa op k a b=some x):∃v,(binOp op ty (.int k a)<|.int k' b).run P w= .ok v w/\VR ρ x v:=by
 unfold Pa at h;cases hd:decide (b<0) with
 |true=>rw[hd] at h;cases h
 |false=>
  rw[hd] at h;have hn:=of_decide_eq_false hd;cases op<;>simp only[zK] at hs<;>first|(cases hs;done)|skip
  ·injection h with h;subst h;exact⟨_,by simp[binOp,Op.shift,hn];first|rfl|done,by simp[VR]⟩
  ·injection h with h;subst h;exact⟨_,by simp[binOp,Op.shift,hn];first|rfl|done,by simp[VR]⟩
theorem vq{n i len:Nat}(h:VR ρ (.slice (some (n,i)) len c) v):∃b N q k,ρ n=some (b,N)/\v= .slice (some ⟨b,q,none⟩) len k:=by
 cases c<;>simp only[VR] at h
 ·obtain⟨b,N,e,rfl⟩:=h;exact⟨b,N,_,_,e,rfl⟩
 ·obtain⟨b,N,_,e,rfl,_⟩:=h;exact⟨b,N,_,_,e,rfl⟩
 ·obtain⟨rfl,b,N,_,_,e,rfl⟩:=h;exact⟨b,N,_,_,e,rfl⟩
theorem my{len:Nat}(h:VR ρ (.slice none len c) v):len=0/\c= .known 0/\v= .slice none 0 0:=by cases c<;>simp only[VR] at h;obtain⟨rfl,rfl,rfl⟩:=h;exact⟨rfl,rfl,rfl⟩
theorem WL{d:Nat}{c:Bool}(h:qo P (d+1) ty a b=some c)(ha:VR ρ a v)(hb:VR ρ b u)(n1:∀k p k' q,a= .int k p->b= .int k' q->False):
 binOp .eql ty v u=(do pure (.bool<|←Op.equal ty v u))/\binOp .neq ty v u=(do pure (.bool<|!(←Op.equal ty v u))):=by
 simp only[qo] at h;split at h<;>first|(cases h;done)|skip
 ·simp only[VR] at ha hb;subst ha;subst hb;exact⟨rfl,rfl⟩
 ·exact(n1 _ _ _ _ rfl rfl).elim
 ·rename_i e q eu;simp only[VR] at ha;subst ha;cases q with
  |none=>simp only[VR] at hb;subst hb;exact⟨rfl,rfl⟩
  |some q=>obtain⟨n,i⟩:=q;simp only[VR] at hb;obtain⟨_,_,_,rfl⟩:=hb;exact⟨rfl,rfl⟩
 ·rename_i e q eu;simp only[VR] at hb;subst hb;obtain⟨n,i⟩:=q;simp only[VR] at ha;obtain⟨_,_,_,rfl⟩:=ha;exact⟨rfl,rfl⟩
 ·simp only[VR] at ha hb;obtain⟨_,rfl,_⟩:=ha;obtain⟨_,rfl,_⟩:=hb;exact⟨rfl,rfl⟩
 ·rename_i e l1 c1 q l2 c2 eu;obtain⟨_,_,rfl⟩:=my ha;cases q with
  |none=>obtain⟨_,_,rfl⟩:=my hb;exact⟨rfl,rfl⟩
  |some q=>obtain⟨n,i⟩:=q;obtain⟨_,_,_,_,_,rfl⟩:=vq hb;exact⟨rfl,rfl⟩
 ·rename_i e q l1 c1 l2 c2 eu;obtain⟨_,_,rfl⟩:=my hb;obtain⟨n,i⟩:=q;obtain⟨_,_,_,_,_,rfl⟩:=vq ha;exact⟨rfl,rfl⟩
 ·obtain⟨_,_,rfl⟩:=my hb;simp only[VR] at ha;rcases ha with⟨_,_,_,_,rfl,_⟩|⟨_,_,_,_,rfl,_⟩<;>exact⟨rfl,rfl⟩
theorem abn{op:BinOp}(h:BU P op ty a b=some x)(ha:VR ρ a v)(hb:VR ρ b u):∃r,(binOp op ty v u).run P w= .ok r w/\VR ρ x r:=by
 unfold BU at h;split at h
 ·rename_i k p k' q;simp only[VR] at ha hb;subst ha;subst hb;cases hs:zK op with
  |true=>rw[hs] at h;exact aaX hs h
  |false=>
   rw[hs] at h;cases hk:decide (k=k') with
   |false=>rw[hk] at h;cases h
   |true=>rw[hk] at h;have:=of_decide_eq_true hk;subst this;obtain⟨r,h1,h2,h3⟩:=ace (P:=P) (w:=w) (ρ:=ρ) hs h;exact⟨r,by rw[h3];exact h1,h2⟩
 ·rename_i n1;split at h<;>first|(cases h;done)|skip
  ·cases e:qo P Op.maxDepth ty a b with
   |none=>rw[e] at h;cases h
   |some c=>
    rw[e] at h;injection h with h;subst h
    have e':qo P (9999+1) ty a b=some c:=e;have:=(WL (P:=P) e' ha hb n1).1;have h2:(Op.equal ty v u).run P w= .ok c w:=J2 e ha hb;exact⟨.bool c,by rw[this];simp[h2],by simp[VR]⟩
  ·cases e:qo P Op.maxDepth ty a b with
   |none=>rw[e] at h;cases h
   |some c=>
    rw[e] at h;injection h with h;subst h
    have e':qo P (9999+1) ty a b=some c:=e;have:=(WL (P:=P) e' ha hb n1).2;have h2:(Op.equal ty v u).run P w= .ok c w:=J2 e ha hb;exact⟨.bool !c,by rw[this];simp[h2],by simp[VR]⟩
theorem Hb(ha:VR ρ a .nilIface):a= .nilIface:=by
 cases a<;>(try simp only[VR] at ha)<;>first|rfl|(cases ha;done)|skip
 ·rename_i q;cases q<;>simp only[VR] at ha<;>first|(cases ha;done)|(obtain⟨_,_,_,e⟩:=ha;cases e)
 ·rename_i q l c;cases q with
  |none=>obtain⟨_,_,e⟩:=my ha;cases e
  |some q=>obtain⟨n,i⟩:=q;obtain⟨_,_,_,_,_,e⟩:=vq ha;cases e
 ·rcases ha with⟨_,_,_,_,e,_⟩|⟨_,_,_,_,e,_⟩<;>cases e
 ·obtain⟨_,_,_,e⟩:=ha;cases e
 ·rename_i q;cases q<;>simp only[VR] at ha<;>first|(cases ha;done)|(obtain⟨_,_,_,e⟩:=ha;cases e)
 ·obtain⟨_,_,_,e,_⟩:=ha;cases e
 ·obtain⟨_,_,_,e⟩:=ha;cases e
 ·obtain⟨_,e,_⟩:=ha;cases e
 ·obtain⟨_,e,_⟩:=ha;cases e
 ·obtain⟨_,e,_⟩:=ha;cases e
theorem WM{cs:Array Value}(ha:VR ρ a<|.agg cs):∃l,a= .agg l:=by
 cases a<;>(try simp only[VR] at ha)<;>first|exact⟨_,rfl⟩|(cases ha;done)|skip
 ·rename_i q;cases q<;>simp only[VR] at ha<;>first|(cases ha;done)|(obtain⟨_,_,_,e⟩:=ha;cases e)
 ·rename_i q l c;cases q with
  |none=>obtain⟨_,_,e⟩:=my ha;cases e
  |some q=>obtain⟨n,i⟩:=q;obtain⟨_,_,_,_,_,e⟩:=vq ha;cases e
 ·rcases ha with⟨_,_,_,_,e,_⟩|⟨_,_,_,_,e,_⟩<;>cases e
 ·obtain⟨_,_,_,e⟩:=ha;cases e
 ·rename_i q;cases q<;>simp only[VR] at ha<;>first|(cases ha;done)|(obtain⟨_,_,_,e⟩:=ha;cases e)
 ·obtain⟨_,_,_,e,_⟩:=ha;cases e
 ·obtain⟨_,_,_,e⟩:=ha;cases e
 ·obtain⟨_,e,_⟩:=ha;cases e
 ·obtain⟨_,e,_⟩:=ha;cases e
theorem acf{op:BinOp}{z:Operand}(h:J0 P op ty y z a b=true)(ha:VR ρ a v)(hb:VR ρ b u):(eqGuard op ty y z v u).run P w= .ok () w:=by
 have key:(op= .eql\/op= .neq)->NQ P ty y z a b=true:=by rintro (rfl|rfl)<;>exact h
 by_cases eU:op= .eql\/op= .neq
 ·have hk:=key eU;by_cases h1:v= .nilIface/\u= .nilIface
  ·obtain⟨rfl,rfl⟩:=h1;have:=Hb ha;subst this;have:=Hb hb;subst this;have hc:(isConst y||isConst z)=true:=hk;rcases eU with rfl|rfl<;>(cases y<;>cases z<;>first|(simp[isConst] at hc;done)|rfl)
  ·by_cases h2:(∃cs,v= .agg cs)/\(∃ds,u= .agg ds)
   ·obtain⟨⟨cs,rfl⟩,⟨ds,rfl⟩⟩:=h2;obtain⟨l,rfl⟩:=WM ha;obtain⟨m,rfl⟩:=WM hb;have hq:P.eqGuardType P.depth ty=false:=by simpa[NQ] using hk
    exact run_eqGuard_agg w op ty y z cs ds hq
   ·rcases eU with rfl|rfl<;>(cases v<;>cases u<;>first|rfl|(exact absurd ⟨rfl,rfl⟩ h1)|(exact absurd ⟨⟨_,rfl⟩,⟨_,rfl⟩⟩ h2))
 ·cases op<;>first|rfl|(exact absurd (.inl rfl) eU)|(exact absurd (.inr rfl) eU)
theorem adl{op:BinOp}{yt:TypeId}{z:Operand}(he:∀x v,aK t x=some v->VR ρ v (ev x))(r:Rel B ρ s.h w)(h:uA P op ty y z SI t s= .ok x s1)(ho:o.op= .binOp op ty y z yt):gh P B ρ s s1 w x<|execOp ev o:=by unfold uA at h;obtain⟨a,h1,h2⟩:=bu h;obtain⟨b,h3,h4⟩:=bu h2;obtain⟨h5,h6⟩:=cX h4;obtain⟨h7,rfl⟩:=gT h6;obtain⟨q,g1,g2⟩:=abn (P:=P) (w:=w) h7 (he y a h1)<|he z b h3;have g3:=acf (P:=P) (w:=w) h5 (he y a h1)<|he z b h3;refine⟨ρ,w,.value q,Ext.refl _ _ _,?_,g2,r,cP.refl _ _⟩;simp[execOp,ho,g3,g1]
theorem aeJ{op:UnOp}(he:∀x v,aK t x=some v->VR ρ v (ev x))(r:Rel B ρ s.h w)(h:CY op y SI t s= .ok x s1)(ho:o.op= .unOp op ty y):gh P B ρ s s1 w x<|execOp ev o:=by
 unfold CY at h;obtain⟨a,h1,h2⟩:=bu h;obtain⟨h3,rfl⟩:=gT h2;have ha:=he y a h1;have:∃q,(Op.unary op<|ev y).run P w= .ok q w/\VR ρ x q:=by
  unfold Xr at h3;split at h3<;>first|(cases h3;done)|skip
  ·rename_i c;simp only[VR] at ha;rw[ha];injection h3 with h3;subst h3
   exact⟨_,rfl,by simp[VR]⟩
 obtain⟨q,g1,g2⟩:=this;refine⟨ρ,w,.value q,Ext.refl _ _ _,?_,g2,r,cP.refl _ _⟩;simp[execOp,ho,g1]
end
end Go.Rn
namespace Go.Rn
open Go.RowKit
variable {y:Operand} {ty:TypeId} {n f i:Nat}
section
variable {P:Program} {B:aJ} {ρ:aw} {w:World} {s s1:AS} {x:AV} {SI:aO} {t:Tr AV} {ev:Operand->Value} {o:Oper}
theorem M9{size m len:Nat}{c:cM}(h:c≠ .lost):firstCells size n (.slice (some (m,i)) len c)=jd m i (n*size):=by cases len<;>cases c<;>first|rfl|exact absurd rfl h
theorem aaI{src dst:TypeId}(he:∀x v,aK t x=some v->VR ρ v (ev x))(fi:bE s)(r:Rel B ρ s.h w)(h:Bw P src dst y SI t s= .ok x s1)(ho:o.op= .convert src dst y):gh P B ρ s s1 w x<|execOp ev o:=by
 unfold Bw at h;obtain⟨a,h1,h2⟩:=bu h;have ha:=he y a h1;have plain:lift (OD P src dst a) s= .ok x s1->gh P B ρ s s1 w x (execOp ev o):=by
  intro h2;obtain⟨h3,rfl⟩:=gT h2;have:∃q,(convert src dst<|ev y).run P w= .ok q w/\VR ρ x q:=by
   unfold OD at h3;split at h3<;>first|(cases h3;done)|skip
   ·rename_i d k n e1 e2 _;simp only[VR] at ha;rw[ha];injection h3 with h3;subst h3
    refine⟨.int d<|d.wrap n,?_,by simp[VR]⟩;simp[convert,de e1,de e2,Conv.intToInt]
  obtain⟨q,g1,g2⟩:=this;exact⟨ρ,w,.value q,Ext.refl _ _ _,by simp[execOp,ho,g1],g2,r,cP.refl _ _⟩
 cases a<;>first|exact plain h2|(have h':(R.bad:R AV)= .ok x s1:=h2;cases h')
theorem aan(he:∀x v,aK t x=some v->VR ρ v (ev x))(r:Rel B ρ s.h w)(h:DF P ty y SI t s= .ok x s1)(ho:o.op= .makeInterface ty y):gh P B ρ s s1 w x<|execOp ev o:=by have h':(R.bad:R AV)= .ok x s1:=h;cases h'
theorem aay{fn:Fn}{first captured:Array Operand}(he:∀x v,aK t x=some v->VR ρ v (ev x))(r:Rel B ρ s.h w)(h:Bq fn first.toList captured.toList SI t s= .ok x s1)(ho:o.op= .makeFunc fn first captured):gh P B ρ s s1 w x<|execOp ev o:=by
 unfold Bq at h;obtain⟨h0,h1⟩:=cX h;obtain⟨f,h2,h3⟩:=bu h1;obtain⟨c,h4,h5⟩:=bu h3;obtain⟨rfl,rfl⟩:=bH h5;refine⟨ρ,w,.value<|.func fn (first.map ev)<|captured.map ev,Ext.refl _ _ _,?_,?_,r,cP.refl _ _⟩
 ·simp[execOp,ho,Instr.makeFunc]
 ·simp only[VR];refine⟨by cases fn<;>first|rfl|(simp[X8] at h0),_,_,rfl,?_,?_⟩
  ·rw[Array.toList_map];exact GM he h2
  ·rw[Array.toList_map];exact GM he h4
theorem VH(r:Rel B ρ s.h w)(hf:dJ s.nx s1.nx ρ)(h:gC (.map [] 0) s= .ok n s1):
 n=s.nx/\Ext s.nx s1.nx ρ (eQ ρ n (w.heap.size,0))/\Rel B (eQ ρ n (w.heap.size,0)) s1.h {w with heap:=w.heap.push<|.map #[] 0}:=by
 obtain⟨ht,rfl,rfl⟩:=vw h;have ji:ρ s.nx=none:=hf s.nx (Nat.le_refl _) (Nat.lt_succ_self _) ak;refine⟨rfl,Ext.mK ji,r.new ht ji rfl ⟨#[],rfl,rfl,rfl⟩⟩
theorem aaJ{q:Option Operand}(he:∀x v,aK t x=some v->VR ρ v (ev x))(r:Rel B ρ s.h w)(hf:dJ s.nx s1.nx ρ)(h:Bx P ty q SI t s= .ok x s1)(ho:o.op= .makeMap ty q):gh P B ρ s s1 w x<|execOp ev o:=by
 unfold Bx at h;obtain⟨u,s2,h1,h2⟩:=M.aR h;obtain⟨n,s3,h3,h4⟩:=M.aR h2;obtain⟨rfl,rfl⟩:=bH h4;cases q with
 |none=>
  obtain⟨_,rfl⟩:=bH h1;obtain⟨rfl,e1,e2⟩:=VH r hf h3;refine⟨_,_,.value<|.map<|some w.heap.size,e1,?_,?_,e2,(gX.alloc w _).below r.size⟩
  ·simp[execOp,ho,Instr.makeMap]
  ·simp only[VR];exact⟨_,_,iQ _ _ _,rfl⟩
 |some y=>
  obtain⟨v,g1,g2⟩:=bu h1;obtain⟨i,g3,g4⟩:=bu g2;obtain⟨k,_,hv⟩:=(he y v g1).D9 g3;have:Lj P ty=true/\s2=s:=by
   cases hb:Lj P ty with
   |false=>rw[hb] at g4;cases g4
   |true=>rw[hb] at g4;cases g4;exact⟨rfl,rfl⟩
  obtain⟨hm,rfl⟩:=this;obtain⟨rfl,e1,e2⟩:=VH r hf h3;refine⟨_,_,.value<|.map<|some w.heap.size,e1,?_,?_,e2,(gX.alloc w _).below r.size⟩
  ·unfold Lj at hm;split at hm
   ·rename_i a b e;simp[execOp,ho,Instr.makeMap,de e,hv,asInt,asIntOf]
   ·cases hm
  ·simp only[VR];exact⟨_,_,iQ _ _ _,rfl⟩
theorem zC{i:Int}{len:Nat}(h:within i len=some n):i=(n:Int)/\n<len:=by
 unfold within at h;cases i with
 |negSucc k=>cases h
 |ofNat k=>
  cases hb:Nat.blt k len with
  |false=>simp only[hb] at h;cases h
  |true=>
   simp only[hb] at h;injection h with h;subst h
   exact⟨rfl,by rw[←blt_eq];exact hb⟩
theorem aaz{a:AV}{v:Value}(ha:VR ρ a v)(h:fieldAddr P ty a f=some x):∃q,(Instr.fieldAt ty v f).run P w= .ok q w/\VR ρ x q:=by
 unfold fieldAddr at h;split at h<;>first|(cases h;done)|skip
 rename_i fs e;cases e1:fs[f]? with
 |none=>rw[e1] at h;cases h
 |some fd=>
  simp only[e1] at h;cases e2:eC P fd.type with
  |none=>rw[e2] at h;cases h
  |some k=>
   simp only[e2] at h;cases e3:Nat.beq k 0 with
   |true=>rw[e3] at h;cases h
   |false=>
    simp only[e3] at h;have hk:¬k=0:=by rw[←beq_eq,e3];simp
    split at h<;>first|(cases h;done)|skip
    ·rename_i n i;injection h with h;subst h
     simp only[VR] at ha;obtain⟨b,N,e4,rfl⟩:=ha;refine⟨.pointer<|some ⟨b,i+fd.offset,none⟩,?_,?_⟩
     ·simp[Instr.fieldAt,de e,e1,Instr.sureAddr,fieldPlace,gS e2,hk,Addr.qE]
     ·simp only[VR];exact⟨b,N,e4,rfl⟩
    ·rename_i n i;injection h with h;subst h
     simp only[VR] at ha;obtain⟨b,sh,e4,rfl⟩:=ha;refine⟨.pointer<|some ⟨b,sh+i+fd.offset,none⟩,?_,?_⟩
     ·simp[Instr.fieldAt,de e,e1,Instr.sureAddr,fieldPlace,gS e2,hk,Addr.qE]
     ·simp only[VR];exact⟨b,sh,e4,by rw[Nat.add_assoc]⟩
theorem aas(he:∀x v,aK t x=some v->VR ρ v (ev x))(r:Rel B ρ s.h w)(h:Bn P ty y f SI t s= .ok x s1)(ho:o.op= .fieldAddr ty y f):gh P B ρ s s1 w x<|execOp ev o:=by unfold Bn at h;obtain⟨a,h1,h2⟩:=bu h;obtain⟨h3,rfl⟩:=gT h2;obtain⟨q,g1,g2⟩:=aaz (P:=P) (w:=w) (he y a h1) h3;exact⟨ρ,w,.value q,Ext.refl _ _ _,by simp[execOp,ho,g1],g2,r,cP.refl _ _⟩
theorem abo(he:∀x v,aK t x=some v->VR ρ v (ev x))(r:Rel B ρ s.h w)(h:BW P ty y f SI t s= .ok x s1)(ho:o.op= .field ty y f):gh P B ρ s s1 w x<|execOp ev o:=by
 unfold BW at h;obtain⟨a,h1,h2⟩:=bu h;obtain⟨h3,rfl⟩:=gT h2;have ha:=he y a h1;unfold VE at h3;split at h3<;>first|(cases h3;done)|skip
 rename_i fs cs e;cases e1:fs[f]? with
 |none=>rw[e1] at h3;cases h3
 |some fd=>simp only[e1] at h3;simp only[VR] at ha;obtain⟨ds,hv,hc⟩:=ha;obtain⟨q,g1,g2⟩:=Gq (P:=P) (w:=w) hc h3;exact⟨ρ,w,.value q,Ext.refl _ _ _,by simp[execOp,ho,hv,Instr.field,de e,e1,asAgg,g1],g2,r,cP.refl _ _⟩
theorem aat{z:Operand}(he:∀x v,aK t x=some v->VR ρ v (ev x))(r:Rel B ρ s.h w)(h:qC P ty y z SI t s= .ok x s1)(ho:o.op= .indexAddr ty y z):gh P B ρ s s1 w x<|execOp ev o:=by
 unfold qC at h;obtain⟨a,h1,h2⟩:=bu h;obtain⟨ix,h3,h4⟩:=bu h2;obtain⟨h5,rfl⟩:=gT h4;have ha:=he y a h1;unfold indexAddr at h5;cases ei:intOf ix with
 |none=>rw[ei] at h5;cases h5
 |some i=>
  simp only[ei] at h5;obtain⟨k,_,hi⟩:=(he z ix h3).D9 ei;have:∃q,(Instr.indexAt ty (ev y)<|ev z).run P w= .ok q w/\VR ρ x q:=by
   rw[hi];split at h5<;>first|(cases h5;done)|skip
   ·rename_i len e n off e1;split at h5<;>first|(cases h5;done)|skip
    rename_i j m e2 e3;injection h5 with h5;subst h5
    obtain⟨rfl,hj⟩:=zC e2;simp only[VR] at ha;obtain⟨b,N,e4,hv⟩:=ha;rw[hv];refine⟨.pointer<|some ⟨b,off+j*m,none⟩,?_,by simp only[VR];exact⟨b,N,e4,rfl⟩⟩;have hr:(0:Int)<=(j:Int)/\(j:Int)<(len:Int):=⟨by omega,by omega⟩;simp[Instr.indexAt,asIntOf,de e1,Instr.sureAddr,hr,gS e3,Addr.qE,hj]
   ·rename_i e n off len cap e1;split at h5<;>first|(cases h5;done)|skip
    rename_i j m e2 e3;injection h5 with h5;subst h5
    obtain⟨rfl,hj⟩:=zC e2;have hr:(0:Int)<=(j:Int)/\(j:Int)<(len:Int):=⟨by omega,by omega⟩;have fin:∀b N c,ρ n=some (b,N)->ev y= .slice (some ⟨b,off,none⟩) len c->∃q,(Instr.indexAt ty (ev y)<|.int k j).run P w= .ok q w/\VR ρ (.ptr<|some (n,off+j*m)) q:=by intro b N c e4 hv;rw[hv];refine⟨.pointer<|some ⟨b,off+j*m,none⟩,?_,by simp only[VR];exact⟨b,N,e4,rfl⟩⟩;simp[Instr.indexAt,asIntOf,de e1,hr,gS e3,Addr.qE,hj]
    cases cap with
    |known c=>simp only[VR] at ha;obtain⟨b,N,e4,hv⟩:=ha;exact fin b N c e4 hv
    |ar lo e5=>simp only[VR] at ha;obtain⟨b,N,c,e4,hv,_⟩:=ha;exact fin b N c e4 hv
    |lost=>simp only[VR] at ha;omega
   ·rename_i e n off len e1;split at h5<;>first|(cases h5;done)|skip
    rename_i j m e2 e3;injection h5 with h5;subst h5
    obtain⟨rfl,hj⟩:=zC e2;have hr:(0:Int)<=(j:Int)/\(j:Int)<(len:Int):=⟨by omega,by omega⟩;simp only[VR] at ha;rcases ha with⟨_,h0,_⟩|⟨b,sh,c,e4,hv,_⟩
    ·omega
    rw[hv];refine⟨.pointer<|some ⟨b,sh+(off+j*m),none⟩,?_,by simp only[VR];exact⟨b,sh,e4,rfl⟩⟩;simp[Instr.indexAt,asIntOf,de e1,hr,gS e3,Addr.qE,hj,Nat.add_assoc]
  obtain⟨q,g1,g2⟩:=this;exact⟨ρ,w,.value q,Ext.refl _ _ _,by simp[execOp,ho,g1],g2,r,cP.refl _ _⟩
theorem abp{z:Operand}(he:∀x v,aK t x=some v->VR ρ v (ev x))(r:Rel B ρ s.h w)(h:BX P ty y z SI t s= .ok x s1)(ho:o.op= .index ty y z):gh P B ρ s s1 w x<|execOp ev o:=by
 unfold BX at h;obtain⟨a,h1,h2⟩:=bu h;obtain⟨ix,h3,h4⟩:=bu h2;obtain⟨h5,rfl⟩:=gT h4;have ha:=he y a h1;unfold indexOf at h5;cases ei:intOf ix with
 |none=>rw[ei] at h5;cases h5
 |some i=>
  simp only[ei] at h5;obtain⟨k,_,hi⟩:=(he z ix h3).D9 ei;have:∃q,(Instr.index ty (ev y)<|ev z).run P w= .ok q w/\VR ρ x q:=by
   rw[hi];split at h5<;>first|(cases h5;done)|skip
   ·rename_i len e cs e1;split at h5<;>first|(cases h5;done)|skip
    rename_i j m e2 e3;obtain⟨rfl,hj⟩:=zC e2;simp only[VR] at ha;obtain⟨ds,hv,hc⟩:=ha;rw[hv];obtain⟨q,g1,g2⟩:=Gq (P:=P) (w:=w) hc h5;have hr:(0:Int)<=(j:Int)/\(j:Int)<(len:Int):=⟨by omega,by omega⟩;refine⟨q,?_,g2⟩;simp[Instr.index,asIntOf,de e1,hr,gS e3,g1,hj]
   ·rename_i q e1;split at h5<;>first|(cases h5;done)|skip
    rename_i j e2;split at h5<;>first|(cases h5;done)|skip
    rename_i b e3;injection h5 with h5;subst h5
    obtain⟨rfl,hj⟩:=zC e2;simp only[VR] at ha;rw[ha];refine⟨.int .u8 b.toNat,?_,by simp[VR]⟩;have hb:q[j]? =some b:=by obtain⟨⟨l⟩⟩:=q;have Y7:l[j]? =some b:=e3;have cF:j<l.length:=(List.getElem?_eq_some_iff.1 Y7).1;have:(ByteArray.mk ⟨l⟩)[j]? =some ((ByteArray.mk ⟨l⟩)[j]'hj):=getElem?_pos _ _ _;rw[this];have hx:(ByteArray.mk ⟨l⟩)[j]'hj=l[j]'cF:=rfl;rw[hx, ←List.getElem?_eq_getElem cF,Y7]
    simp[Instr.index,asIntOf,de e1,hb]
  obtain⟨q,g1,g2⟩:=this;exact⟨ρ,w,.value q,Ext.refl _ _ _,by simp[execOp,ho,g1],g2,r,cP.refl _ _⟩
theorem aaY{xt:TypeId}{ok:Bool}(he:∀x v,aK t x=some v->VR ρ v (ev x))(r:Rel B ρ s.h w)(h:D6 P ty ok y SI t s= .ok x s1)(ho:o.op= .typeAssert y xt ty ok):gh P B ρ s s1 w x<|execOp ev o:=by have h':(R.bad:R AV)= .ok x s1:=h;cases h'
theorem aaK(he:∀x v,aK t x=some v->VR ρ v (ev x))(r:Rel B ρ s.h w)(h:By y i SI t s= .ok x s1)(ho:o.op= .extract y i):gh P B ρ s s1 w x<|execOp ev o:=by
 unfold By at h;obtain⟨a,h1,h2⟩:=bu h;obtain⟨h3,rfl⟩:=gT h2;have ha:=he y a h1;unfold partOf at h3;split at h3<;>first|(cases h3;done)|skip
 rename_i l;simp only[VR] at ha;obtain⟨vs,hv,hl⟩:=ha;obtain⟨q,g1,g2⟩:=hl.get i x h3;have C1:vs[i]? =some q:=by simpa using g1
 exact⟨ρ,w,.value q,Ext.refl _ _ _,by simp[execOp,ho,hv,Instr.extract,C1],g2,r,cP.refl _ _⟩
end
end Go.Rn
namespace Go.Rn
open Go.RowKit
variable {v:Value} {ty:TypeId} {real l hh:Nat} {mL iI FL:Option Value} {lo:Option AV} {a:AV} {b:Bool}
section
variable {P:Program} {B:aJ} {ρ:aw} {w:World} {s s1:AS} {x:AV} {SI:aO} {t:Tr AV} {ev:Operand->Value} {o:Oper}
def pc(ρ:aw):Option AV->Option Value->Prop
 |none,v=>v=none
 |some a,v=>∃u,v=some u/\VR ρ a u
theorem Pd(he:∀x v,aK t x=some v->VR ρ v (ev x)){y:Option Operand}{a:Option AV}(h:opt (aK t) y=some a):pc ρ a<|y.map ev:=by
 cases y with
 |none=>simp only[opt] at h;injection h with h;subst h;rfl
 |some y=>
  simp only[opt] at h;cases e:aK t y with
  |none=>rw[e] at h;cases h
  |some v=>simp only[e] at h;injection h with h;subst h;exact⟨_,rfl,he y v e⟩
theorem Gr{qW n d:Nat}{code:BoundsCode}(ha:VR ρ a v)(h:bound (some a) qW d=some n)(hr:qW<=real):(Instr.sliceBound v real code).run P w= .ok n w/\n<=qW:=by
 unfold bound at h;cases e:intOf a with
 |none=>simp only[e] at h;cases h
 |some i=>simp only[e] at h;obtain⟨k,_,rfl⟩:=ha.D9 e;obtain⟨rfl,hn⟩:=zC h;have hr:(0:Int)<=(n:Int)/\(n:Int)<=(real:Int):=⟨by omega,by omega⟩;refine⟨?_,by omega⟩;simp only[Instr.sliceBound,asIntOf,Sem.run_bind,Sem.run_pure,Result.andThen_ok,if_pos hr,Int.toNat_natCast]
theorem DI{hi:Option AV}{len low:Nat}(h1:pc ρ lo mL)(h2:pc ρ hi iI)(hr:low<=real)(e1:bound hi low len=some hh)(e2:bound lo hh 0=some l):
 (Instr.sliceBounds b len real mL iI none).run P w= .ok (l,hh,real) w/\(hi=none/\hh=len\/hh<=low)/\l<=hh:=by
 have g1:∃c,(match iI,(none:Option Value) with
  |some v,some _=>Instr.sliceBound v real .slice3B
  |some v,none=>Instr.sliceBound v real c
  |none,none=>pure len
  |none,some _=>stuck "Slice: max without high" :Sem Nat).run P w= .ok hh w/\c=(if b then BoundsCode.sliceAcap else .sliceAlen)/\(hi=none/\hh=len\/hh<=low):=by
  cases hi with
  |none=>
   simp only[pc] at h2;subst h2;simp only[bound] at e1;injection e1 with e1;subst e1
   exact⟨_,rfl,rfl,.inl ⟨rfl,rfl⟩⟩
  |some a=>obtain⟨u,rfl,hu⟩:=h2;obtain⟨a1,a2⟩:=Gr (P:=P) (w:=w) (code:=if b then BoundsCode.sliceAcap else .sliceAlen) hu e1 hr;exact⟨_,a1,rfl,.inr a2⟩
 obtain⟨c,g1,rfl,g2⟩:=g1;have g3:(match mL with
  |some v=>Instr.sliceBound v hh (if(none:Option Value).isSome then BoundsCode.slice3C else .sliceB)
  |none=>pure 0:Sem Nat).run P w= .ok l w/\l<=hh:=by
  cases lo with
  |none=>
   simp only[pc] at h1;subst h1;simp only[bound] at e2;injection e2 with e2;subst e2
   exact⟨rfl,Nat.zero_le _⟩
  |some a=>obtain⟨u,rfl,hu⟩:=h1;exact Gr (P:=P) (w:=w) hu e2<|Nat.le_refl _
 refine⟨?_,g2,g3.2⟩;cases iI<;>cases mL<;>simp_all [Instr.sliceBounds]
theorem S7{len low m:Nat}{c:AV}(h1:pc ρ lo mL)(h2:pc ρ (some a) iI)(h3:pc ρ (some c) FL)(hr:low<=real)(e0:bound (some c) low 0=some m)(e1:bound (some a) m 0=some hh)(e2:bound lo hh 0=some l):
 (Instr.sliceBounds b len real mL iI FL).run P w= .ok (l,hh,m) w/\l<=hh/\hh<=m/\m<=low:=by
 obtain⟨u,rfl,hu⟩:=h2;obtain⟨v,rfl,hv⟩:=h3;have q0:=fun code=>Gr (P:=P) (w:=w) (code:=code) hv e0 hr;have q1:=fun code=>Gr (P:=P) (w:=w) (code:=code) hu e1<|Nat.le_refl _;cases lo with
 |none=>
  simp only[pc] at h1;subst h1;simp only[bound] at e2;injection e2 with e2;subst e2
  refine⟨?_,Nat.zero_le _,(q1 .slice3B).2,(q0 .slice3B).2⟩;simp[Instr.sliceBounds,(q0 _).1,(q1 _).1]
 |some y=>obtain⟨z,rfl,hz⟩:=h1;have q2:=fun code=>Gr (P:=P) (w:=w) (code:=code) hz e2<|Nat.le_refl _;refine⟨?_,(q2 .slice3B).2,(q1 .slice3B).2,(q0 .slice3B).2⟩;simp[Instr.sliceBounds,(q0 _).1,(q1 _).1,(q2 _).1]
theorem Nh{e:TypeId}{lo hi mx:Option Value}(h:P.underlying ty=some (.slice e)):(Instr.sliceAt ty v lo hi mx).run P w=(Instr.slice ty v lo hi mx).run P w:=by simp[Instr.sliceAt,de h]
theorem aaZ{hi mx : Option AV}(ha:VR ρ a v)(h1:pc ρ lo mL)(h2:pc ρ hi iI)(h3:pc ρ mx FL)(h:rU P ty a lo hi mx=some x):
    ∃q,(Instr.sliceAt ty v mL iI FL).run P w= .ok q w/\VR ρ x q:=by
  unfold rU at h
  split at h<;>first|(cases h;done)|skip
  · 
    rename_i e p len cap e1
    cases ek:eC P e with
    |none=>simp only[ek] at h;cases h
    | some k=>
      simp only[ek] at h
      rw[Nh e1]
      have hv:∃q real,v= .slice q len real/\jB len cap<=real/\len<=real\/∃q real,v= .slice q len real/\cap= .known real:=by
        cases p with
        |none=>obtain⟨rfl,rfl,rfl⟩:=my ha;exact⟨none,0,.inr ⟨none,0,rfl,rfl⟩⟩
        | some p=>
          obtain⟨n,i⟩:=p
          cases cap with
          |known c=>simp only[VR] at ha;obtain⟨b,N,_,rfl⟩:=ha;exact⟨none,0,.inr ⟨_,c,rfl,rfl⟩⟩
          |ar b0 e0=>simp only[VR] at ha;obtain⟨b,N,c,_,rfl,h5,h6,_⟩:=ha;exact⟨_,c,.inl ⟨rfl,h5,h6⟩⟩
          |lost=>simp only[VR] at ha;obtain⟨rfl,b,N,_,c,_,rfl⟩:=ha;exact⟨_,c,.inl ⟨rfl,by simp[jB],Nat.zero_le _⟩⟩
      clear hv
      cases mx with
      | some mx =>
        simp only[] at h
        have hl:cap≠ .lost:=by intro e2;subst e2;cases h
        have h':slice3 k p (jB len cap) lo hi mx=some x:=by
          cases cap<;>first|exact h|exact absurd rfl hl
        clear h
        unfold slice3 at h'
        cases e2:bound (some mx) (jB len cap) 0 with
        |none=>simp only[e2] at h';cases h'
        | some m=>
          simp only[e2] at h'
          cases hi with
          |none=>cases h'
          | some hi =>
            simp only[] at h'
            cases e3:bound (some hi) m 0 with
            |none=>simp only[e3] at h';cases h'
            | some hh=>
              simp only[e3] at h'
              cases e4:bound lo hh 0 with
              |none=>simp only[e4] at h';cases h'
              | some l=>
                simp only[e4] at h'
                cases p with
                | none=>
                  obtain⟨rfl,rfl,rfl⟩:=my ha
                  simp only[] at h';injection h' with h';subst h'
                  obtain⟨g1,g2,g3,g4⟩:=S7 (P:=P) (w:=w) (b:=true) (len:=0) (real:=0) h1 h2 h3 (Nat.le_refl _) e2 e3 e4
                  have g4':m<=0:=g4
                  refine⟨.slice none 0 0,?_,?_⟩
                  · have z1:m=0:=by omega
                    have z2:hh=0:=by omega
                    have z3:l=0:=by omega
                    subst z1;subst z2;subst z3
                    simp[Instr.slice,de e1,g1,gS ek]
                  · have z1:hh - l=0:=by omega
                    have z2:m - l=0:=by omega
                    rw[z1,z2];simp[VR]
                | some p=>
                  obtain⟨n,i⟩:=p
                  simp only[] at h'
                  have hv:∃b N real,ρ n=some (b,N)/\v= .slice (some ⟨b,i,none⟩) len real/\jB len cap<=real:=by
                    cases cap with
                    |known c=>simp only[VR] at ha;obtain⟨b,N,e5,rfl⟩:=ha;exact⟨b,N,c,e5,rfl,by simp[jB]⟩
                    |ar b0 e0=>simp only[VR] at ha;obtain⟨b,N,c,e5,rfl,h5,h6,_⟩:=ha;exact⟨b,N,c,e5,rfl,h5⟩
                    |lost=>exact absurd rfl hl
                  obtain⟨b,N,real,e5,rfl,ahR⟩:=hv
                  obtain⟨g1,g2,g3,g4⟩:=S7 (P:=P) (w:=w) (b:=true) (len:=len) h1 h2 h3 ahR e2 e3 e4
                  cases e6:Nat.beq m l with
                  | true=>
                    simp only[e6] at h';injection h' with h';subst h'
                    have uT:=eA.1 e6
                    refine⟨.slice (some ⟨b,i,none⟩) (hh - l)<|m - l,?_,by simp only[VR];exact⟨b,N,e5,rfl⟩⟩
                    subst uT;simp[Instr.slice,de e1,g1,gS ek]
                  | false=>
                    simp only[e6] at h';injection h' with h';subst h'
                    have cz:¬m=l:=by rw[←beq_eq,e6];simp
                    refine⟨.slice (some ⟨b,i+l*k,none⟩) (hh - l)<|m - l,?_,by simp only[VR];exact⟨b,N,e5,rfl⟩⟩
                    simp[Instr.slice,de e1,g1,gS ek,cz,Addr.qE]
      | none=>
        simp only[pc] at h3;subst h3
        simp only[] at h
        cases e3:bound hi (jB len cap) len with
        |none=>simp only[e3] at h;cases h
        | some hh =>
          simp only[e3] at h
          cases e4:bound lo hh 0 with
          |none=>simp only[e4] at h;cases h
          | some l=>
            simp only[e4] at h
            cases p with
            | none=>
              obtain⟨rfl,rfl,rfl⟩:=my ha
              simp only[] at h;injection h with h;subst h
              obtain⟨g1,g2,g3⟩:=DI (P:=P) (w:=w) (b:=true) (len:=0) (real:=0) h1 h2 (Nat.le_refl _) e3 e4
              have z1:hh=0:=by rcases g2 with⟨_,e⟩|e<;>omega
              have z2:l=0:=by omega
              subst z1;subst z2
              refine⟨.slice none 0 0,?_,by simp[VR]⟩
              simp[Instr.slice,de e1,g1,gS ek]
            | some p=>
              obtain⟨n,i⟩:=p
              cases cap with
              | known c=>
                simp only[] at h
                simp only[VR] at ha;obtain⟨b,N,e5,rfl⟩:=ha
                obtain⟨g1,g2,g3⟩:=DI (P:=P) (w:=w) (b:=true) (len:=len) (real:=c) h1 h2 (by simp[jB]) e3 e4
                cases e6:Nat.beq c l with
                | true=>
                  simp only[e6] at h;injection h with h;subst h
                  have uT:=eA.1 e6
                  refine⟨.slice (some ⟨b,i,none⟩) (hh - l)<|c - l,?_,by simp only[VR];exact⟨b,N,e5,rfl⟩⟩
                  subst uT;simp[Instr.slice,de e1,g1,gS ek]
                | false=>
                  simp only[e6] at h;injection h with h;subst h
                  have cz:¬c=l:=by rw[←beq_eq,e6];simp
                  refine⟨.slice (some ⟨b,i+l*k,none⟩) (hh - l)<|c - l,?_,by simp only[VR];exact⟨b,N,e5,rfl⟩⟩
                  simp[Instr.slice,de e1,g1,gS ek,cz,Addr.qE]
              | ar b0 e0=>
                simp only[] at h
                simp only[VR] at ha;obtain⟨b,N,c,e5,rfl,h5,h6,h7⟩:=ha
                obtain⟨g1,g2,g3⟩:=DI (P:=P) (w:=w) (b:=true) (len:=len) (real:=c) h1 h2 h5 e3 e4
                have hhc:hh<=c:=by
                  rcases g2 with⟨_,e⟩|e
                  · omega
                  · have e':hh<=b0:=e
                    omega
                cases e6:Nat.beq l 0 with
                | true=>
                  simp only[e6] at h;injection h with h;subst h
                  have uT:=eA.1 e6
                  refine⟨.slice (some ⟨b,i,none⟩) (hh - l)<|c - 0,?_,?_⟩
                  · subst uT;by_cases q:c=0
                    · subst q;simp[Instr.slice,de e1,g1,gS ek]
                    · simp[Instr.slice,de e1,g1,gS ek,q,Addr.qE]
                  · simp only[VR];exact⟨b,N,c,e5,rfl,h5,by omega,h7⟩
                |false=>simp only[e6] at h;cases h
              |lost=>cases h
  · -- a row that stays as it is
    rename_i e n i len e1
    cases ek:eC P e with
    |none=>simp only[ek] at h;cases h
    | some k=>
      simp only[ek] at h
      cases mx with
      |some _=>cases h
      | none=>
        simp only[pc] at h3;subst h3
        simp only[] at h
        cases e3:bound hi len len with
        |none=>simp only[e3] at h;cases h
        | some hh =>
          simp only[e3] at h
          cases e4:bound lo hh 0 with
          |none=>simp only[e4] at h;cases h
          | some l=>
            simp only[e4] at h
            cases e5:Nat.ble top n with
            |false=>simp only[e5] at h;cases h
            | true=>
              simp only[e5] at h;injection h with h;subst h
              have q1:=aL.1 e5
              simp only[VR] at ha
              rcases ha with⟨_,rfl,a0,c,rfl,hz⟩|⟨b,sh,c,e6,rfl,e7⟩
              · obtain⟨g1,g2,g3⟩:=DI (P:=P) (w:=w) (b:=true) (len:=0) (real:=c) h1 h2 (Nat.zero_le c) e3 e4
                have zh:hh=0:=by rcases g2 with⟨_,e⟩|e<;>omega
                subst zh
                have zl:l=0:=by omega
                subst zl
                rw[Nh e1]
                cases a0 with
                |none=>exact⟨.slice none 0 c,by simp[Instr.slice,de e1,g1,gS ek],by simp only[VR];exact .inl ⟨q1,trivial,none,c,rfl,hz⟩⟩
                | some a0=>
                  by_cases q:c=0
                  · subst q
                    exact⟨.slice (some a0) 0 0,by simp[Instr.slice,de e1,g1,gS ek],by simp only[VR];exact .inl ⟨q1,trivial,some a0,0,rfl,hz⟩⟩
                  · exact⟨.slice (some<|a0.add 0) 0 c,by simp[Instr.slice,de e1,g1,gS ek,q],by simp only[VR];exact .inl ⟨q1,trivial,_,c,rfl,(fun e=>by cases e),(fun e=>by cases hz.2.1 e),fun _ e=>by cases e⟩⟩
              have hc:=(e7 q1).1
              obtain⟨g1,g2,g3⟩:=DI (P:=P) (w:=w) (b:=true) (len:=len) (real:=c) h1 h2 hc e3 e4
              have hhc:hh<=c:=by rcases g2 with⟨_,e⟩|e<;>omega
              rw[Nh e1]
              by_cases q:c=l
              · subst q
                refine⟨.slice (some ⟨b,sh+i,none⟩) (hh - c)<|c - c,by simp[Instr.slice,de e1,g1,gS ek],?_⟩
                have z:hh - c=0:=by omega
                simp only[VR]
                exact .inl ⟨q1,z,some ⟨b,sh+i,none⟩,c - c,by rw[z],(fun e=>by cases e),(fun e=>absurd e (e7 q1).2),fun _ e=>by cases e⟩
              · refine⟨.slice (some ⟨b,sh+(i+l*k),none⟩) (hh - l)<|c - l,by simp[Instr.slice,de e1,g1,gS ek,q,Addr.qE,Nat.add_assoc],?_⟩
                simp only[VR]
                exact .inr ⟨b,sh,c - l,e6,rfl,fun _=>⟨by omega,(e7 q1).2⟩⟩
  · -- an array,by its address
    rename_i len e n i e1
    cases ek:eC P e with
    |none=>simp only[ek] at h;cases h
    | some k=>
      simp only[ek] at h
      cases mx with
      |some _=>cases h
      | none=>
        simp only[pc] at h3;subst h3
        simp only[] at h
        cases e2:bound hi len len with
        |none=>simp only[e2] at h;cases h
        | some hh=>
          simp only[e2] at h
          cases e3:bound lo hh 0 with
          |none=>simp only[e3] at h;cases h
          | some l=>
            simp only[e3] at h
            simp only[VR] at ha;obtain⟨b,N,e5,rfl⟩:=ha
            obtain⟨g1,g2,g3⟩:=DI (P:=P) (w:=w) (b:=false) h1 h2 (Nat.le_refl _) e2 e3
            cases e6:Nat.beq len l with
            | true=>
              simp only[e6] at h;injection h with h;subst h
              have uT:=eA.1 e6
              refine⟨.slice (some ⟨b,i,none⟩) (hh - l)<|len - l,?_,by simp only[VR];exact⟨b,N,e5,rfl⟩⟩
              subst uT;simp[Instr.sliceAt,de e1,Instr.sureAddr,g1,gS ek]
            | false=>
              simp only[e6] at h;injection h with h;subst h
              have cz:¬len=l:=by rw[←beq_eq,e6];simp
              refine⟨.slice (some ⟨b,i+l*k,none⟩) (hh - l)<|len - l,?_,by simp only[VR];exact⟨b,N,e5,rfl⟩⟩
              simp[Instr.sliceAt,de e1,Instr.sureAddr,g1,gS ek,cz,Addr.qE]
theorem abq{y:Operand}{lo hi mx:Option Operand}(he:∀x v,aK t x=some v->VR ρ v (ev x))(r:Rel B ρ s.h w)(h:qI P ty y lo hi mx SI t s= .ok x s1)(ho:o.op= .slice ty y lo hi mx):gh P B ρ s s1 w x<|execOp ev o:=by unfold qI at h;obtain⟨a,h1,h2⟩:=bu h;obtain⟨mL,h3,h4⟩:=bu h2;obtain⟨iI,h5,h6⟩:=bu h4;obtain⟨FL,h7,h8⟩:=bu h6;obtain⟨h9,rfl⟩:=gT h8;obtain⟨q,g1,g2⟩:=aaZ (P:=P) (w:=w) (he y a h1) (Pd he h3) (Pd he h5) (Pd he h7) h9;exact⟨ρ,w,.value q,Ext.refl _ _ _,by simp[execOp,ho,g1],g2,r,cP.refl _ _⟩
end
end Go.Rn
namespace Go.Rn
open Go.RowKit
variable {n:Nat} {v:Value} {ty:TypeId} {a:AV}
theorem Rel.WN{B:aJ}{ρ:aw}{h:Tr ae}{w w':World}(r:Rel B ρ h w){p:ae}{b N:Nat}(ht:n<top)(hg:h.get n=some p)(hp:p.plain=true)(cH:p.du=false)(hr:ρ n=some (b,N))(hw:xY b w w'):
 Rel B ρ (h.put n none) w'/\∀m q,m<top->(h.put n none).get m=some q->∀M,ρ m≠some (b,M):=by
 have g:∀m,m<top->(h.put n none).get m=if m=n then none else h.get m:=fun m hm=>Tr.dt _ _ _ _ ht hm
 have l7:∀m q,m<top->(h.put n none).get m=some q->∀M,ρ m≠some (b,M):=by
  intro m q hm hq M e;rw[g m hm] at hq;by_cases e2:m=n
  ·rw[if_pos e2] at hq;cases hq
  ·rw[if_neg e2] at hq;exact e2<|r.one m n q p b M N hm ht hq hg (.inr cH) e hr
 refine⟨?_,l7⟩;have hl:h.get n≠some .jP:=by intro e;rw[hg] at e;cases e;simp[ae.plain] at hp
 have r2:=r.drop ht hl;refine⟨?_,r2.one,?_,by rw[hw.size];exact r.size,r2.lone,r.fz.of (aw.le_refl _) (fun b1 _ hn=>hw.block b1 fun e=>hn n p N ht hg cH (by rw[e];exact hr)) (fun b1 _ hn=>hn.sub fun m q hm hq hU=>by
  rw[g m hm] at hq;by_cases e:m=n
  ·rw[if_pos e] at hq;cases hq
  ·rw[if_neg e] at hq;exact⟨q,hq,hU⟩),r.tk.of (aw.le_refl _) (fun m q hm hq _=>by
  rw[g m hm] at hq;by_cases e:m=n
  ·rw[if_pos e] at hq;cases hq
  ·rw[if_neg e] at hq;exact hq) (by rw[hw.size];exact Nat.le_refl _) (fun b1 _ hn=>hw.block b1 fun e=>hn n p N ht hg cH (by rw[e];exact hr)) (fun b1 _ hn=>hn.sub fun m q hm hq hU=>by
  rw[g m hm] at hq;by_cases e:m=n
  ·rw[if_pos e] at hq;cases hq
  ·rw[if_neg e] at hq;exact⟨q,hq,hU⟩) fun _ _ _ _ _ e=>e⟩
 ·intro m q hm hq;obtain⟨b1,N1,o1,h1,h2,h3,h4⟩:=r2.is m q hm hq;exact⟨b1,N1,o1,h1,(hw.block b1 fun e=>l7 m q hm hq N1<|by rw[h1,e]).trans h2,h3,h4⟩
 ·intro i m es ex left cur hi hq;obtain⟨hm,fx,u⟩:=r2.iter i m es ex left cur hi hq;exact⟨hm,fx,u.mX hw.block (l7 i _ hi hq)<|l7 m _ hm fx⟩
section
variable {P:Program} {B:aJ} {ρ:aw} {w:World} {s s1:AS} {x:AV} {SI:aO} {t:Tr AV} {ev:Operand->Value} {o:Oper}
theorem Tp(h:n<2 ^ 63):IntKind.i64.wrap (n:Int)=n:=by exact IntWalk.i64_in _ ak
theorem aaA{l c:AV}{vl vc:Value}(hl:VR ρ l vl)(hc:VR ρ c vc)(r:Rel B ρ s.h w)(hf:dJ s.nx s1.nx ρ)(h:makeSlice P ty l c s= .ok x s1):jR P B ρ s s1 w x<|Instr.makeSlice ty vl vc:=by
 unfold makeSlice at h;cases e1:P.underlying ty with
 |none=>simp only[e1] at h;cases h
 |some d=>
  cases d<;>simp only[e1] at h<;>first|(cases h;done)|skip
  rename_i e;obtain⟨il,h1,h⟩:=bu h;obtain⟨ic,h2,h⟩:=bu h;obtain⟨i,h3,h⟩:=bu h;obtain⟨nc,h4,h⟩:=bu h;obtain⟨nl,h5,h⟩:=bu h;obtain⟨z,h6,h⟩:=bu h;obtain⟨h7,h⟩:=cX h;obtain⟨n,s2,h8,h9⟩:=M.aR h;obtain⟨rfl,rfl⟩:=bH h9;obtain⟨q1,q2⟩:=and_true.1 h7;obtain⟨q3,q4⟩:=and_true.1 q2;obtain⟨q5,q6⟩:=and_true.1 q4;have q1:=aL.1 q1;have q3:=aL.1 q3;obtain⟨k1,_,rfl⟩:=hl.D9 h1;obtain⟨k2,_,rfl⟩:=hc.D9 h2;obtain⟨rfl,jK⟩:=zC h4;obtain⟨rfl,Ml⟩:=zC h5;unfold room at jK q1;obtain⟨vz,g1,g2⟩:=Jk (P:=P) (w:=w) ρ h6;obtain⟨ht,rfl,rfl⟩:=vw h8;have ji:ρ s.nx=none:=hf s.nx (Nat.le_refl _) (Nat.lt_succ_self _) ak;have hz:=g2.cells.length;simp only[Array.length_toList] at hz;have zU:(Array.range<|nc*i.size).map (fun j=>(if nc*i.size=0 then(#[]:Array Value) else vz.cells)[j % (if nc*i.size=0 then(#[]:Array Value) else vz.cells).size]!)=(Array.range<|nc*i.size).map (fun j=>vz.cells[j % vz.cells.size]!):=by
   by_cases q:nc*i.size=0
   ·rw[q];simp
   ·simp only[if_neg q]
  refine⟨eQ ρ s.nx (w.heap.size,nc*i.size),{w with heap:=w.heap.push<|.cells ((Array.range<|nc*i.size).map fun j=>vz.cells[j % vz.cells.size]!) e},.slice (some ⟨w.heap.size,0,none⟩) nl nc,Ext.mK ji,?_,?_,?_,(gX.alloc w _).below r.size⟩
  ·have w1:IntKind.i64.wrap (nl:Int)=nl:=Tp ak;have w2:IntKind.i64.wrap (nc:Int)=nc:=Tp ak;have t1:(decide ((nc:Int)<0)||decide ((i.bytes:Int)*(nc:Int)>2 ^ 48))=false:=by
    have:¬((nc:Int)<0):=by omega
    have h2:¬((i.bytes:Int)*(nc:Int)>2 ^ 48):=by
     have:(i.bytes:Int)*(nc:Int)=((nc*i.bytes:Nat):Int):=by rw[Nat.mul_comm];simp
     rw[this];omega
    rw[decide_eq_false this,decide_eq_false h2];rfl
   have t2:¬((nl:Int)<0):=by omega
   have t3:¬((nl:Int)>(nc:Int)):=by omega
   simp only[Instr.makeSlice,Sem.run_bind,de e1,Result.andThen_ok,asInt,asIntOf,Sem.run_pure,vp h3,w1,w2];have anL:¬(((decide ((nc:Int)<0)||decide ((i.bytes:Int)*(nc:Int)>2 ^ 48))=true)\/((nl:Int)<0)\/((nl:Int)>(nc:Int))):=by
    rw[t1];rintro (e|e|e)
    ·cases e
    ·exact t2 e
    ·exact t3 e
   have agq:((decide ((nc:Int)<0)||decide ((i.bytes:Int)*(nc:Int)>2 ^ 48))||decide ((nl:Int)<0)||decide ((nl:Int)>(nc:Int)))=false:=by rw[t1];simp[t2,t3]
   simp only[agq,Bool.false_eq_true,if_false,Sem.run_bind,run_askRoom,Result.andThen_ok,Int.toNat_natCast,gS (show eC P e=some i.size by simp[eC,h3])];by_cases q:nc*i.size=0
   ·simp only[if_pos q] at zU ⊢;simp only[Sem.run_bind,Sem.run_pure,Result.andThen_ok,zU];rfl
   ·simp only[if_neg q] at zU ⊢;simp only[Sem.run_bind,g1,Sem.run_pure,Result.andThen_ok];rfl
  ·simp only[VR];exact⟨_,_,iQ _ _ _,rfl⟩
  ·refine r.new ht ji rfl ⟨_,e,rfl,by simp,Nat.le_refl _,fun j hj=>?_⟩;have ahS:0<z.cells.length:=by
    rcases Nat.eq_zero_or_pos z.cells.length with h0|h0
    ·rw[h0] at q5;have:Nat.beq (nc*i.size) 0=true:=by
      cases hb:Nat.beq (nc*i.size) 0 with
      |true=>rfl
      |false=>rw[hb] at q5;simp at q5
     have:=eA.1 this;omega
    ·exact h0
   have hm:j % z.cells.length<z.cells.length:=Nat.mod_lt _ ahS;obtain⟨a,ha⟩:∃a,z.cells[j % z.cells.length]? =some a:=⟨_,List.getElem?_eq_getElem hm⟩;obtain⟨v,hv,hr⟩:=g2.cells.get _ a ha;refine⟨a,v,?_,List.all_eq_true.1 q6 a<|List.mem_of_getElem? ha,?_,hr.mono<|oD ji⟩
   ·unfold cellAt;rw[Tr.get_nil];exact ha
   ·have cW:j % vz.cells.size<vz.cells.size:=by rw[←hz];exact hm
    have jJ:vz.cells[j % vz.cells.size]? =some v:=by rw[←hz];simpa using hv
    simp only[Array.getElem?_map,Array.getElem?_range,if_pos hj,Option.map_some];rw[getElem!_pos vz.cells _ cW];rw[Array.getElem?_eq_getElem cW] at jJ;injection jJ with jJ;rw[jJ]
theorem aau{l c:Operand}(he:∀x v,aK t x=some v->VR ρ v (ev x))(r:Rel B ρ s.h w)(hf:dJ s.nx s1.nx ρ)(h:Bm P ty l c SI t s= .ok x s1)(ho:o.op= .makeSlice ty l c):gh P B ρ s s1 w x<|execOp ev o:=by unfold Bm at h;obtain⟨a,h1,h2⟩:=bu h;obtain⟨b,h3,h4⟩:=bu h2;have:=(aaA (P:=P) (he l a h1) (he c b h3) r hf h4).op;simpa only[execOp,ho] using this
theorem I9{size:Nat}{l:List AV}(ha:VR ρ a v)(fi:bE s)(r:Rel B ρ s.h w)(h:firstCells size n a s= .ok l s1):
 s1.h=s.h/\s1.nx=s.nx/\∃arr:Array Value,(Builtin.firstCells size n v).run P w= .ok arr w/\az ρ l arr.toList:=by
 cases a with
 |slice p len cap=>
  cases p with
  |none=>
   have h':(M.pure []:M<|List AV) s= .ok l s1:=by cases len<;>cases cap<;>exact h
   obtain⟨rfl,rfl⟩:=bH h';obtain⟨rfl,rfl,rfl⟩:=my ha;exact⟨rfl,rfl, #[],rfl,by simp[az]⟩
  |some p=>
   obtain⟨m,i⟩:=p;by_cases hc:cap= .lost
   ·subst hc;simp only[VR] at ha;obtain⟨rfl,b,N,q,c,e,rfl⟩:=ha;obtain⟨h1,h2⟩:=cX (show(aF (Nat.beq n 0) <| (M.pure []:M<|List AV)) s= .ok l s1 from h);obtain⟨rfl,rfl⟩:=bH h2;have:=eA.1 h1;subst this;refine⟨rfl,rfl, #[],?_,by simp[az]⟩;simp[Builtin.firstCells,loadCells,loadCellsFrom]
   ·rw[M9 hc] at h;have:∃b N c,ρ m=some (b,N)/\v= .slice (some ⟨b,i,none⟩) len c:=by
     cases cap with
     |known c=>simp only[VR] at ha;obtain⟨b,N,e,rfl⟩:=ha;exact⟨b,N,c,e,rfl⟩
     |ar lo e0=>simp only[VR] at ha;obtain⟨b,N,c,e,rfl,_⟩:=ha;exact⟨b,N,c,e,rfl⟩
     |lost=>exact absurd rfl hc
    obtain⟨b,N,c,e,rfl⟩:=this;obtain⟨a1,a2,a3,a4,vs,a5,a6,_⟩:=zy (P:=P) fi r h e;exact⟨a1,a2,vs.toArray,by simpa[Builtin.firstCells] using a5,by simpa using a6⟩
 |_=>cases h
theorem T0(ha:VR ρ a v)(h:lenOf a=some n):(Builtin.lenOf v).run P w= .ok n w:=by
 cases a with
 |slice p len cap=>
  simp only[lenOf] at h;injection h with h;subst h
  cases p with
  |none=>obtain⟨rfl,rfl,rfl⟩:=my ha;rfl
  |some p=>obtain⟨m,i⟩:=p;obtain⟨_,_,_,_,_,rfl⟩:=vq ha;rfl
 |_=>cases h
theorem T1(nq:Nat):∀(k c:Nat),c<=nq->Builtin.growBy nq k c<=nq+nq+800
 |0,c,h=>by simp only[Builtin.growBy];omega
 |k+1,c,h=>by
  simp only[Builtin.growBy];by_cases q:c>=nq
  ·rw[if_pos q];omega
  ·rw[if_neg q];by_cases q2:c+(c+768) / 4<=nq
   ·exact T1 nq k _ q2
   ·have:∀k,Builtin.growBy nq k (c+(c+768) / 4)=c+(c+768) / 4:=by
     intro k;cases k with
     |zero=>rfl
     |succ k=>simp only[Builtin.growBy];rw[if_pos ak]
    rw[this];omega
theorem abr{nq dG:Nat}(h:dG<nq):Builtin.nextslicecap nq dG<=2*nq+4096:=by
 unfold Builtin.nextslicecap;split
 ·omega
 ·split
  ·omega
  ·have:=T1 nq 4 dG ak;omega
theorem adm{elem:TypeId}{i:TypeInfo}{sv xv:Value}{base:Option Addr}{len c:Nat}{xt:Option TypeId}{args:Array TypeId}{sT:TypeId}{dG new:Array Value}{zv:Value}(hs:sv= .slice base len c)(hu:P.underlying sT=some (.slice elem))(yT:args[0]? =some sT)(uU:args[1]? =xt)(hx:pP P xt=true)(hi:P.info? elem=some i)(hn:(Builtin.lenOf xv).run P w= .ok n w)(cF:c<len+n)(ur:2*(len+n)*i.bytes+4096*i.bytes<=room)(hb:i.bytes≠0)(ho:(Builtin.firstCells i.size len sv).run P {w with drawn:=w.drawn+1}= .ok dG {w with drawn:=w.drawn+1})(hw:(Builtin.firstCells i.size n xv).run P {w with drawn:=w.drawn+1}= .ok new {w with drawn:=w.drawn+1})(hz:∀w':World,(zeroValue elem).run P w'= .ok zv w'):
    ∃ rest:List Value,∃nc,len+n<=nc/\rest.length=(nc - (len+n))*zv.cells.size/\(Builtin.append_ args 0 #[sv,xv]).run P w=
      .ok (.slice (some ⟨w.heap.size,0,none⟩) (len+n) nc) {w with heap:=w.heap.push<|.cells ((dG++new).toList++rest).toArray elem,drawn:=w.drawn+1}:=by
  subst hs
  have LJ:=abr cF
  have hmul:Builtin.nextslicecap (len+n) c*i.bytes<=2 ^ 48:=by
    have:=Nat.mul_le_mul_right i.bytes LJ
    have e:(2*(len+n)+4096)*i.bytes=2*(len+n)*i.bytes+4096*i.bytes:=Nat.add_mul _ _ _
    unfold room at ur
    omega
  have hnc:∃nc,len+n<=nc/\(choose<|.appendCap (len+n) c elem).run P w= .ok nc {w with drawn:=w.drawn+1}:=by
    refine⟨len+n+w.tape w.drawn (.appendCap (len+n) c elem) % (2 ^ 63 - (len+n)),by omega,?_⟩
    rw[run_choose]
    simp[Question.forced,Question.cut]
  obtain⟨nc,ajL,Yc⟩:=hnc
  refine⟨(Builtin.zeroCells zv.cells<|nc - (len+n)).toList,nc,ajL,by simp[Builtin.zeroCells],?_⟩
  have hle:¬(len+n<=c):=by omega
  have Y8:¬(((len+n:Nat):Int)>IntKind.i64.max/\(False\/i.bytes=0)):=by
    rintro ⟨_,e|e⟩
    · cases e
    · exact hb e
  have Yd:¬(Builtin.nextslicecap (len+n) c*i.bytes>2 ^ 48):=by omega
  have eN:∀w':World,(Go.newRow elem<|dG++new++Builtin.zeroCells zv.cells (nc - (len+n))).run P w'= .ok ⟨w'.heap.size,0,none⟩ {w' with heap:=w'.heap.push<|.cells ((dG++new).toList++(Builtin.zeroCells zv.cells<|nc - (len+n)).toList).toArray elem}:=by
    intro w'
    have e:((dG++new).toList++(Builtin.zeroCells zv.cells<|nc - (len+n)).toList).toArray=dG++new++Builtin.zeroCells zv.cells (nc - (len+n)):=by
      rw[←Array.toList_append]
    rw[e];rfl
  unfold pP at hx
  cases xt with
  | none=>
    simp only[Builtin.append_,yT,uU]
    simp only[show(#[Value.slice base len c,xv]:Array Value)[0]? =some (.slice base len c) from rfl,show(#[Value.slice base len c,xv]:Array Value)[1]? =some xv from rfl]
    simp only[Sem.run_bind,de hu,Result.andThen_ok,gS (show eC P elem=some i.size by simp[eC,hi]),Sem.run_pure,Bool.false_eq_true,if_false,hn,if_neg hle,vp hi]
    rw[if_neg Y8]
    simp only[Sem.run_bind,vp hi,Result.andThen_ok]
    rw[if_neg Yd]
    simp only[Sem.run_bind,Yc,Result.andThen_ok,vp hi,run_askRoom,ho,Bool.not_false,if_true,hw,hz,eN,Sem.run_pure]
  | some q =>
    simp only at hx
    cases e:P.underlying q with
    |none=>rw[e] at hx;cases hx
    | some d=>
      rw[e] at hx
      cases d<;>first
        |(cases hx;done)
        | (simp only[Builtin.append_,yT,uU]
           simp only[show(#[Value.slice base len c,xv]:Array Value)[0]? =some (.slice base len c) from rfl,show(#[Value.slice base len c,xv]:Array Value)[1]? =some xv from rfl]
           simp only[Sem.run_bind,de hu,Result.andThen_ok,gS (show eC P elem=some i.size by simp[eC,hi]),Sem.run_pure,de e,Bool.false_eq_true,if_false,hn,if_neg hle,vp hi]
           rw[if_neg Y8]
           simp only[Sem.run_bind,vp hi,Result.andThen_ok]
           rw[if_neg Yd]
           simp only[Sem.run_bind,Yc,Result.andThen_ok,vp hi,run_askRoom,ho,Bool.not_false,if_true,hw,hz,eN,Sem.run_pure])
end
end Go.Rn
namespace Go.Rn
open Go.RowKit
variable {n size c:Nat} {elem sT:TypeId} {xv:Value} {xt:Option TypeId} {l:List AV} {i:TypeInfo} {base:Option Addr} {args:Array TypeId}
section
variable {P:Program} {B:aJ} {ρ:aw} {w:World} {s s1:AS} {x:AV} {SI:aO} {t:Tr AV} {ev:Operand->Value} {o:Oper}
theorem J3{len:Nat}{new:Array Value}{w':World}(hu:P.underlying sT=some (.slice elem))(yT:args[0]? =some sT)(uU:args[1]? =xt)(hx:pP P xt=true)(hi:eC P elem=some size)(hn:(Builtin.lenOf xv).run P w= .ok n w)(hle:len+n<=c)(hw:(Builtin.firstCells size n xv).run P w= .ok new w)(cQ:(match base with|some a=>storeCells (a.add<|len*size) new.toList|none=>pure ()).run P w= .ok () w'):
    (Builtin.append_ args 0 #[.slice base len c,xv]).run P w= .ok (.slice base (len+n) c) w':=by
  have ji:base=none->w'=w:=by
    intro e;subst e
    have ajM:Result.ok () w= .ok () w':=cQ
    injection ajM with _ e;exact e.symm
  unfold pP at hx
  cases xt with
  | none=>
    simp only[Builtin.append_,yT,uU]
    simp only[show(#[Value.slice base len c,xv]:Array Value)[0]? =some (.slice base len c) from rfl,show(#[Value.slice base len c,xv]:Array Value)[1]? =some xv from rfl]
    simp only[Sem.run_bind,de hu,Result.andThen_ok,gS hi,Sem.run_pure,Bool.false_eq_true,if_false,hn,if_pos hle,Bool.not_false,if_true,hw]
    cases base with
    |none=>simp only[Sem.run_pure,ji rfl]
    |some a=>simp only[Sem.run_bind,show(storeCells (a.add<|len*size) new.toList).run P w= .ok () w' from cQ,Result.andThen_ok,Sem.run_pure]
  | some q =>
    simp only at hx
    cases e:P.underlying q with
    |none=>rw[e] at hx;cases hx
    | some d=>
      rw[e] at hx
      cases d<;>first
        |(cases hx;done)
        | (simp only[Builtin.append_,yT,uU]
           simp only[show(#[Value.slice base len c,xv]:Array Value)[0]? =some (.slice base len c) from rfl,show(#[Value.slice base len c,xv]:Array Value)[1]? =some xv from rfl]
           simp only[Sem.run_bind,de hu,Result.andThen_ok,gS hi,Sem.run_pure,de e,Bool.false_eq_true,if_false,hn,if_pos hle,Bool.not_false,if_true,hw]
           cases base with
           |none=>simp only[Sem.run_pure,ji rfl]
           |some a=>simp only[Sem.run_bind,show(storeCells (a.add<|len*size) new.toList).run P w= .ok () w' from cQ,Result.andThen_ok,Sem.run_pure])
theorem aaB(hi:P.info? elem=some i)(h:tJ i=true):∃zv,(∀w':World,(zeroValue elem).run P w'= .ok zv w')/\zv.cells.size=i.size:=by
 unfold tJ at h;cases e:i.zero with
 |none=>rw[e] at h;cases h
 |some v=>rw[e] at h;exact⟨v,fun w'=>by simp[zeroValue,vp hi,e],eA.1 h⟩
theorem aaC{off:Nat}{vs:List Value}{u:Unit}{b N:Nat}(fi:bE s)(r:Rel B ρ s.h w)(hN:off+l.length<=N)(h:xz n off l s= .ok u s1)(hn:ρ n=some (b,N))(hl:az ρ l vs):
 s1.nx=s.nx/\∃w',(storeCells ⟨b,off,none⟩ vs).run P w= .ok () w'/\Rel B ρ s1.h w'/\cP B w w':=by
 cases l with
 |nil=>simp only[az] at hl;subst hl;have h':M.pure () s= .ok u s1:=h;obtain⟨_,rfl⟩:=bH h';exact⟨rfl,w,rfl,r,cP.refl _ _⟩
 |cons x l=>
  unfold xz at h;obtain⟨o,s2,h1,h2⟩:=M.aR h;obtain⟨hx,hg,hh,cJ⟩:=fY h1;have ht:n<top:=Nat.lt_of_lt_of_le hx fi.nx;obtain⟨o',hb,hO,hB⟩:=r.block ht hg hn;cases o with
  |cells m t z=>
   obtain⟨q1,q2⟩:=cX h2;obtain⟨q3,q4⟩:=and_true.1 q1;obtain⟨q5,q6⟩:=and_true.1 q4;obtain⟨_,_,_,e1,e2⟩:=jy q2;obtain⟨c,e,rfl,hc,hm,row⟩:=hO;have hlen:(x::l).length=vs.length:=hl.length;have h3:off<=m:=aL.1 q3;have h4:max m (off+(x::l).length)<=top:=aL.1 q5;have h5:∀y∈x::l,y.cj=true:=fun y hy=>List.all_eq_true.1 q6 y hy;have cQ:=NR (P:=P) (off:=off) (vs:=vs) hb ak<|Jc hl h5;obtain⟨g1,g2⟩:=Np (cs:=(c.toList.take off++vs++c.toList.drop (off+vs.length)).toArray) hb;refine⟨by rw[e2,cJ],_,cQ,?_,g1.below<|hB rfl⟩;rw[e1,hh];refine r.put ht hg rfl rfl hn rfl g1 g2 ?_;refine⟨_,e,rfl,(size_set ak).trans hc,?_,?_⟩
   ·show max m (off+(x::l).length)<=N;omega
   ·have h6:max m (off+(x::l).length)<=c.size:=by omega
    exact Row.set (ρ:=ρ) (c:=c) (n:=m) row hl h5 h3 rfl h6 h4
  |_=>cases h2
theorem NT{sv:Value}{len:Nat}{dG new:List AV}{vo vn:Array Value}(hs:sv= .slice base len c)(hu:P.underlying sT=some (.slice elem))(yT:args[0]? =some sT)(uU:args[1]? =xt)(hx:pP P xt=true)(hi:P.info? elem=some i)(hz:tJ i=true)(hn:(Builtin.lenOf xv).run P w= .ok n w)(cF:c<len+n)(r:Rel B ρ s.h w)(hf:dJ s.nx s1.nx ρ)(gI:dG.length=len*i.size)(yU:new.length=n*i.size)(ho:(Builtin.firstCells i.size len sv).run P {w with drawn:=w.drawn+1}= .ok vo {w with drawn:=w.drawn+1})(hw:(Builtin.firstCells i.size n xv).run P {w with drawn:=w.drawn+1}= .ok vn {w with drawn:=w.drawn+1})(Y9:az ρ dG vo.toList)(FN:az ρ new vn.toList)(h:grown i.size i.bytes (len+n) dG new s= .ok x s1):jR P B ρ s s1 w x<|Builtin.append_ args 0 #[sv,xv]:=by
 unfold grown at h;obtain⟨h1,h2⟩:=cX h;obtain⟨m,s2,h3,h4⟩:=M.aR h2;obtain⟨rfl,rfl⟩:=bH h4;obtain⟨h5,h6⟩:=and_true.1 h1;have ur:=aL.1 h5;have hb:i.bytes≠0:=by intro e;rw[e] at h6;simp at h6
 obtain⟨zv,hz1,hz2⟩:=aaB (P:=P) hi hz;obtain⟨rest,nc,g1,g2,g3⟩:=adm (P:=P) (w:=w) hs hu yT uU hx hi hn cF ur hb ho hw hz1;have r1:Rel B ρ s.h {w with drawn:=w.drawn+1}:=r.Fg<|gX.drew w;obtain⟨rfl,k1,σ,k2,k3,k4,k5⟩:=NA (P:=P) elem rest r1 hf h3<|Y9.append FN;have e:vo.toList++vn.toList++rest=(vo++vn).toList++rest:=by simp
 refine⟨σ,_,_,k2,g3,?_,?_,(gX.trans (gX.drew w)<|gX.alloc _ _).below r.size⟩
 ·simp only[VR];refine⟨_,_,nc,k3,rfl,g1,g1,?_⟩;have e1:=Y9.length;have e2:=FN.length;simp only[List.length_append];rw[←e1, ←e2,gI,yU,g2,hz2,Nat.zero_add, ←Nat.add_mul, ←Nat.add_mul];exact Nat.le_of_eq (by congr 1;omega)
 ·rw[e] at k5;exact k5
theorem aao{len:Nat}{base:Option<|Nat×Nat}{cap:cM}{v:Value}(fi:bE s)(r:Rel B ρ s.h w)(ha:VR ρ (.slice base len cap) v)(hc:cap≠ .lost)(h:firstCells size len (.slice base len cap) s= .ok l s1):l.length=len*size:=by
 cases base with
 |none=>obtain⟨rfl,rfl,rfl⟩:=my ha;obtain⟨rfl,rfl⟩:=bH (show(M.pure []:M<|List AV) s= .ok l s1 from h);simp
 |some p=>obtain⟨m,i⟩:=p;rw[M9 hc] at h;obtain⟨b,N,q,k,hn,rfl⟩:=vq ha;exact(zy (P:=(default:Program)) fi r h hn).2.2.1
end
end Go.Rn
