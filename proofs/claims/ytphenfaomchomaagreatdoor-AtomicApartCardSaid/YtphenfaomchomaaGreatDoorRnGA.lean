import Derived.Calls
import Derived.Orders
set_option maxRecDepth 100000
set_option maxHeartbeats 8000000
set_option linter.unusedSimpArgs false
set_option linter.unusedVariables false
namespace Go.Rn
variable {α:Type} {P:Prop}
noncomputable section
inductive Tr (α:Type) where
 |nil:Tr α
 |node (l:Tr α) (v:Option α) (r:Tr α):Tr α
def Tr.vI(p:List Bool):Tr α->Option α:= @List.rec Bool (fun _=>Tr α->Option α) (fun t=> @Tr.rec α (fun _=>Option α) none (fun _ v _ _ _=>v) t) (fun b _ ih t=> @Tr.rec α (fun _=>Option α) none (fun l _ r _ _=>ih<|@Bool.rec (fun _=>Tr α) r l b) t) p
def Tr.mj(v:Option α)(p:List Bool):Tr α->Tr α:=
 @List.rec Bool (fun _=>Tr α->Tr α) (fun t=> @Tr.rec α (fun _=>Tr α) (.node .nil v .nil) (fun l _ r _ _=>.node l v r) t)
  (fun b _ ih t=> @Tr.rec α (fun _=>Tr α)
   (@Bool.rec (fun _=>Tr α) (.node .nil none<|ih .nil) (.node (ih .nil) none .nil) b)
   (fun l x r _ _=> @Bool.rec (fun _=>Tr α) (.node l x<|ih r) (.node (ih l) x r) b) t) p
theorem Tr.H9(p:List Bool):(Tr.nil:Tr α).vI p=none:=by cases p<;>rfl
theorem Tr.HP(l r:Tr α)(v:Option α):(Tr.node l v r).vI []=v:=rfl
theorem Tr.HQ(l r:Tr α)(v:Option α)(b:Bool)(p:List Bool):(Tr.node l v r).vI (b::p)=if b=true then l.vI p else r.vI p:=by cases b<;>rfl
theorem Tr.EU(l r:Tr α)(x v:Option α)(b:Bool)(p:List Bool):Tr.mj v (b::p) (Tr.node l x r)=if b=true then .node (Tr.mj v p l) x r else .node l x (Tr.mj v p r):=by cases b<;>rfl
theorem Tr.MY(v:Option α)(b:Bool)(p:List Bool):Tr.mj v (b::p) (Tr.nil:Tr α)=if b=true then .node (Tr.mj v p .nil) none .nil else .node .nil none (Tr.mj v p .nil):=by cases b<;>rfl
theorem Tr.Mn(v:Option α):∀(p q:List Bool) (t:Tr α),(Tr.mj v p t).vI q=if q=p then v else t.vI q
 |[],q,t=>by
  cases t with
  |nil=>
   show(Tr.node .nil v .nil).vI q=_;cases q with
   |nil=>simp[Tr.HP]
   |cons b q=>simp[Tr.HQ,Tr.H9]
  |node l x r=>
   show(Tr.node l v r).vI q=_;cases q with
   |nil=>simp[Tr.HP]
   |cons b q=>simp[Tr.HQ]
 |a::p,q,t=>by
  cases t with
  |nil=>
   rw[Tr.MY];cases q with
   |nil=>cases a<;>simp[Tr.HP,Tr.H9]
   |cons b q=>cases a<;>cases b<;>simp[Tr.HQ,Tr.H9,Tr.Mn v p q]
  |node l x r=>
   rw[Tr.EU];cases q with
   |nil=>cases a<;>simp[Tr.HP]
   |cons b q=>cases a<;>cases b<;>simp[Tr.HQ,Tr.Mn v p q]
def path(f:Nat):Nat->List Bool:= @Nat.rec (fun _=>Nat->List Bool) (fun _=>[]) (fun _ ih n=> @Bool.rec (fun _=>List Bool) (List.cons (Nat.beq (Nat.mod n 2) 1)<|ih<|Nat.div (Nat.pred n) 2) []<|Nat.beq n 0) f
theorem MZ(a b:α)(c:Bool): @Bool.rec (fun _=>α) a b c=if c=true then b else a:=by cases c<;>rfl
theorem beq_eq(n m:Nat):(Nat.beq n m=true)=(n=m):=by rw[Nat.beq_eq]
theorem HR(f n:Nat):path (f+1) n=if n=0 then[] else(Nat.beq (n % 2) 1)::path f ((n - 1) / 2):=by show @Bool.rec (fun _=>List Bool) (List.cons (Nat.beq (n % 2) 1)<|path f<|(n - 1) / 2) [] (Nat.beq n 0)=_;simp only[MZ,beq_eq]
theorem Ty:∀(f n m:Nat),n+1<=2 ^ f->m+1<=2 ^ f->path f n=path f m->n=m
 |0,n,m,hn,hm,_=>by simp at hn hm;omega
 |f+1,n,m,hn,hm,h=>by
  rw[HR,HR] at h;have hp:2 ^ (f+1)=2*2 ^ f:=by rw[Nat.pow_succ];omega
  by_cases h0:n=0
  ·by_cases h1:m=0
   ·omega
   ·rw[if_pos h0,if_neg h1] at h;cases h
  ·by_cases h1:m=0
   ·rw[if_neg h0,if_pos h1] at h;cases h
   ·rw[if_neg h0,if_neg h1] at h;injection h with ha hb
    have:=Ty f _ _ (by omega) (by omega) hb;have hq:(n % 2=1)=(m % 2=1):=by rw[←beq_eq, ←beq_eq,ha]
    have eg:n % 2=1↔m % 2=1:=by rw[hq]
    omega
def top:Nat:=549755813888
def Tr.get(t:Tr α)(n:Nat):Option α:=Tr.vI (path 40 n) t
def Tr.put(t:Tr α)(n:Nat)(v:Option α):Tr α:=Tr.mj v (path 40 n) t
theorem Tr.get_nil(n:Nat):(Tr.nil:Tr α).get n=none:=Tr.H9 _
theorem R9:∀(f k n:Nat),n+1<2 ^ k->(path f n).length<k
 |0,k,n,h=>by
  have:k≠0:=by intro e;subst e;simp at h
  show 0<k;omega
 |f+1,k,n,h=>by
  rw[HR];have hk:k≠0:=by intro e;subst e;simp at h
  by_cases h0:n=0
  ·rw[if_pos h0];show 0<k;omega
  ·rw[if_neg h0];obtain⟨j,rfl⟩:∃j,k=j+1:=⟨k - 1,by omega⟩;have hp:2 ^ (j+1)=2*2 ^ j:=by rw[Nat.pow_succ];omega
   have:=R9 f j ((n - 1) / 2) (by omega);simp only[List.length_cons];omega
theorem SI:∀(f k n:Nat),k<=f->2 ^ k<=n+1->k<=(path f n).length
 |_,0,_,_,_=>Nat.zero_le _
 |0,k+1,_,h,_=>by omega
 |f+1,k+1,n,h,hn=>by
  have hp:2 ^ (k+1)=2*2 ^ k:=by rw[Nat.pow_succ];omega
  have h1:1<=2 ^ k:=Nat.one_le_two_pow;rw[HR,if_neg<|by omega];have:=SI f k ((n - 1) / 2) (by omega) (by omega);simp only[List.length_cons];omega
theorem Uq{n m:Nat}(h:n<top)(e:m≠n):path 40 m≠path 40 n:=by
 unfold top at h;by_cases hm:m+1<=2 ^ 40
 ·exact fun k=>e<|Ty 40 m n hm (by omega) k
 ·intro k;have h1:=SI 40 40 m (Nat.le_refl _) (by omega);have h2:=R9 40 40 n (by omega);rw[k] at h1;omega
theorem Tr.lP(t:Tr α)(n m:Nat)(v:Option α)(h:n<top):(t.put n v).get m=if m=n then v else t.get m:=by
 unfold Tr.get Tr.put;rw[Tr.Mn];by_cases e:m=n
 ·subst e;simp
 ·simp[e,Uq h e]
theorem Tr.di(t:Tr α)(n m:Nat)(v:Option α)(h:n<top)(_:m<top):(t.put n v).get m=if m=n then v else t.get m:=Tr.lP t n m v h
def Tr.fill(l:List α):Nat->Tr α->Tr α:= @List.rec α (fun _=>Nat->Tr α->Tr α) (fun _ t=>t) (fun x _ ih i t=>ih (Nat.succ i)<|t.put i<|some x) l
theorem Tr.M3:∀(l:List α) (i:Nat) (t:Tr α) (m:Nat),i+l.length<=top->m<top->
 (Tr.fill l i t).get m=if i<=m/\m<i+l.length then l[m - i]? else t.get m
 |[],i,t,m,_,_=>by show t.get m=_;simp;intro h1 h2;omega
 |x::l,i,t,m,h,hm=>by
  simp only[List.length_cons] at h;show(Tr.fill l (i+1)<|t.put i<|some x).get m=_;rw[Tr.M3 l _ _ _ (by omega) hm,Tr.di _ _ _ _ (by omega) hm];simp only[List.length_cons];by_cases h1:i+1<=m/\m<i+1+l.length
  ·have h2:i<=m/\m<i+(l.length+1):=by omega
   rw[if_pos h1,if_pos h2];obtain⟨k,rfl⟩:∃k,m=i+1+k:=⟨m - (i+1),by omega⟩;rw[show i+1+k - (i+1)=k from by omega,show i+1+k - i=k+1 from by omega];simp
  ·rw[if_neg h1];by_cases e:m=i
   ·subst e;simp
   ·have h2:¬(i<=m/\m<i+(l.length+1)):=by omega
    rw[if_neg e,if_neg h2]
theorem Tr.sH:∀(l:List α) (i:Nat) (t:Tr α) (m:Nat),i+l.length<=top->
 (Tr.fill l i t).get m=if i<=m/\m<i+l.length then l[m - i]? else t.get m
 |[],i,t,m,_=>by show t.get m=_;simp;intro h1 h2;omega
 |x::l,i,t,m,h=>by
  simp only[List.length_cons] at h;show(Tr.fill l (i+1)<|t.put i<|some x).get m=_;rw[Tr.sH l _ _ _ (by omega),Tr.lP _ _ _ _<|by omega];simp only[List.length_cons];by_cases h1:i+1<=m/\m<i+1+l.length
  ·have h2:i<=m/\m<i+(l.length+1):=by omega
   rw[if_pos h1,if_pos h2];obtain⟨k,rfl⟩:∃k,m=i+1+k:=⟨m - (i+1),by omega⟩;rw[show i+1+k - (i+1)=k from by omega,show i+1+k - i=k+1 from by omega];simp
  ·rw[if_neg h1];by_cases e:m=i
   ·subst e;simp
   ·have h2:¬(i<=m/\m<i+(l.length+1)):=by omega
    rw[if_neg e,if_neg h2]
end
theorem aj(h:P:=by omega):P:=h
theorem fV(h:P:=by simp[Op.operands]):P:=h
theorem iD(h:P:=by decide):P:=h
theorem jI(h:P:=by simp):P:=h
theorem D9(h:P:=by rw[←ag.nx];exact h1):P:=h
theorem vY(h:P:=by simp;omega):P:=h
theorem Ea(h:P:=by rw[←hg];exact h2):P:=h
end Go.Rn
namespace Go.Rn
variable {l:List Item} {it:Item}
def loose(b:Array Nat)(i j:Nat):Bool:= !((b.getD i 0).testBit j||(b.getD j 0).testBit i)
def ID(ops:Array Oper):Prop:=∀(j:Nat) (o:Oper) (e:Edge),ops[j]? =some o->e∈o.after->Region.binds .any e=true->e.on<j
def acV(ops:Array Oper):Prop:=∀(i j:Nat) (x y:Oper) (d:Tmp),i≠j->ops[i]? =some x->ops[j]? =some y->x.dst=some d->(d∈y.looksAt ops\/y.dst=some d)->loose (Region.before ops) i j=false
structure JJ (ops:Array Oper):Prop where
 Wa:ID ops
 Dm:acV ops
def iw:Code->Prop
 | .seq a b=>iw a/\iw b
 | .cond _ a b=>iw a/\iw b
 | .block _ b=>iw b
 | .loop b=>iw b
 | .scope b=>iw b
 | .region _ ops draw=>draw=true->JJ ops
 | .rangeFunc _ _ a b=>iw a/\iw b
 |_=>True
def I8:Item->Prop
 | .code c=>iw c
 | .inLoop b=>iw b
 | .inScope b=>iw b
 |_=>True
def jC(l:List Item):Prop:=∀it∈l,I8 it
structure FF (bN:Option Code) (assign body:Code):Prop where
 bN:∀c,bN=some c->iw c
 assign:iw assign
 body:iw body
theorem jC.cons(h:I8 it)(k:jC l):jC<|it::l:=by
 intro x hx;rcases List.mem_cons.1 hx with rfl|hx
 ·exact h
 ·exact k x hx
theorem jC.head(h:jC<|it::l):I8 it:=h it List.mem_cons_self
theorem jC.tail(h:jC<|it::l):jC l:=fun x hx=>h x<|List.mem_cons_of_mem _ hx
theorem jC.nil:jC []:=fun _ h=>by cases h
theorem Mo{id:Nat}:∀{k k':List Item},exitTo id k=some k'->jC k->jC k'
  |[],_,h,_=>by simp[exitTo] at h
  | it::k,k',h,hk=>by
    cases it<;>simp only[exitTo] at h<;>first
      |exact Mo h hk.tail
      | (split at h
         · injection h with h;subst h;exact hk.tail
         · exact Mo h hk.tail)
theorem Zb{l:Nat}:∀{c r:Code},findLabel c l=some r->iw c->iw r:=by
 intro c;induction c with
 |seq a b BN BO=>
  intro r h hc;simp only[findLabel] at h;cases e:findLabel a l with
  |some q=>rw[e] at h;injection h with h;subst h;exact⟨BN e hc.1,hc.2⟩
  |none=>rw[e] at h;exact BO h hc.2
 |label l'=>
  intro r h _;simp only[findLabel] at h;split at h
  ·injection h with h;subst h;trivial
  ·cases h
 |_=>intro r h _;simp[findLabel] at h
theorem Mp{l:Nat}:∀{k k':List Item},gotoIn l k=some k'->jC k->jC k'
 |[],_,h,_=>by simp[gotoIn] at h
 |it::k,k',h,hk=>by
  cases it<;>simp only[gotoIn] at h<;>first
   |exact Mp h hk.tail
   |skip
  rename_i body;cases e:findLabel body l with
  |some q=>rw[e] at h;injection h with h;subst h;exact .cons (Zb e hk.head) hk
  |none=>rw[e] at h;exact Mp h hk.tail
end Go.Rn
namespace Go.Rn
variable {n sh b nt:Nat} {w:World} {v:Value} {a:Array Value}
inductive bZ where
 |known (c:Nat)
 |aq (lo e:Nat)
 |lost
 deriving Inhabited,DecidableEq
inductive AV where
 |bool (b:Bool)
 |int (k:IntKind) (n:Int)
 |str (s:ByteArray)
 |ptr (a:Option<|Nat×Nat)
 |slice (a:Option<|Nat×Nat) (len:Nat) (cap:bZ)
 |U (n o len:Nat)
 |pG (n o:Nat)
 |map (r:Option Nat)
 |func (fn:Fn) (first captured:List AV)
 |yield (l:Nat)
 |nilFunc
 |iface (t:TypeId) (v:AV)
 |nilIface
 |agg (cells:List AV)
 |tuple (vs:List AV)
 |J9 (n:Nat)
 deriving Inhabited
abbrev Ren:=Nat->Option (Nat×Nat)
def Ren.le(ρ σ:Ren):Prop:=∀n x,ρ n=some x->σ n=some x
theorem Ren.le_refl(ρ:Ren):ρ.le ρ:=fun _ _ h=>h
theorem Ren.le_trans{ρ σ τ:Ren}(h:ρ.le σ)(k:σ.le τ):ρ.le τ:=fun n x e=>k n x<|h n x e
def Ur:Fn->Bool
 | .yield _=>false
 |_=>true
def pr(a b:Nat):Nat:=2 ^ a*(2*b+1)
theorem fK:∀{a b c d:Nat},pr a b=pr c d->a=c/\b=d
 |0,b,0,d,h=>by unfold pr at h;omega
 |0,b,c+1,d,h=>by
  unfold pr at h;have e:2 ^ (c+1)*(2*d+1)=2*(2 ^ c*(2*d+1)):=by rw[Nat.pow_succ,Nat.mul_comm (2 ^ c) 2,Nat.mul_assoc]
  rw[e] at h;omega
 |a+1,b,0,d,h=>by
  unfold pr at h;have e:2 ^ (a+1)*(2*b+1)=2*(2 ^ a*(2*b+1)):=by rw[Nat.pow_succ,Nat.mul_comm (2 ^ a) 2,Nat.mul_assoc]
  rw[e] at h;omega
 |a+1,b,c+1,d,h=>by
  have e1:pr (a+1) b=2*pr a b:=by unfold pr;rw[Nat.pow_succ,Nat.mul_comm (2 ^ a) 2,Nat.mul_assoc]
  have e2:pr (c+1) d=2*pr c d:=by unfold pr;rw[Nat.pow_succ,Nat.mul_comm (2 ^ c) 2,Nat.mul_assoc]
  obtain⟨h1,h2⟩:=fK (a:=a) (b:=b) (c:=c) (d:=d) aj;exact⟨by omega,h2⟩
def hn(n b sh:Nat):Nat:=top+pr n (pr b sh)
theorem gf(n b sh:Nat):top<=hn n b sh:=Nat.le_add_right _ _
theorem I9{n' b' Qe:Nat}(h:hn n b sh=hn n' b' Qe):n=n'/\b=b'/\sh=Qe:=by unfold hn at h;obtain⟨h1,h2⟩:=fK (show pr n (pr b sh)=pr n' (pr b' Qe) by omega);exact⟨h1,fK h2⟩
def qw(ρ:Ren)(n b sh:Nat):Prop:=(¬top<=n/\ρ n=some (b,sh))\/(top<=n/\ρ (hn n b sh)≠none)
theorem qw.high{ρ:Ren}(h:qw ρ n b sh)(ht:top<=n):ρ (hn n b sh)≠none:=h.elim (fun h=>absurd ht h.1) fun h=>h.2
theorem qw.low{ρ:Ren}(h:qw ρ n b sh)(ht:¬top<=n):ρ n=some (b,sh):=h.elim (fun h=>h.2) fun h=>absurd h.1 ht
theorem qw.mono{ρ σ:Ren}(h:ρ.le σ):qw ρ n b sh->qw σ n b sh
  | .inl ⟨a,b⟩=>.inl ⟨a,h _ _ b⟩
  | .inr ⟨a,b⟩=>.inr ⟨a,fun e=>b (by
    cases q:ρ (hn n _ sh) with
    |none=>rfl
    |some x=>rw[h _ _ q] at e;cases e)⟩
def zOk(n:Nat)(a:Option Addr)(c:Nat):Prop:=(a=none->c=0)/\(n=top->a=none)/\(n=top+1->a≠none)
mutual
def VR(ρ:Ren):AV->Value->Prop
 | .bool b,v=>v= .bool b
 | .int k n,v=>v= .int k n
 | .str s,v=>v= .string s
 | .ptr none,v=>v= .pointer none
 | .ptr (some (n,o)),v=>∃b N,ρ n=some (b,N)/\v= .pointer (some ⟨b,o,none⟩)
 | .slice none len (.known c),v=>v= .slice none len c/\len=0/\c=0
 | .slice none _ (.aq _ _),_=>False
 | .slice none _ .lost,_=>False
 | .slice (some (n,_)) len .lost,v=>len=0/\∃b N o c,ρ n=some (b,N)/\v= .slice (some ⟨b,o,none⟩) 0 c
 | .slice (some (n,o)) len (.known c),v=>∃b N,ρ n=some (b,N)/\v= .slice (some ⟨b,o,none⟩) len c
 | .slice (some (n,o)) len (.aq lo e),v=>∃b N c,ρ n=some (b,N)/\v= .slice (some ⟨b,o,none⟩) len c/\lo<=c/\len<=c/\o+c*e<=N
 | .U n o len,v=>(top<=n/\len=0/\∃a c,v= .slice a 0 c/\zOk n a c)\/∃b sh c,qw ρ n b sh/\v= .slice (some ⟨b,sh+o,none⟩) len c/\(top<=n->len<=c/\n≠top)
 | .pG n o,v=>∃b sh,qw ρ n b sh/\v= .pointer (some ⟨b,sh+o,none⟩)
 | .map none,v=>v= .map none
 | .map (some n),v=>∃b N,ρ n=some (b,N)/\v= .map (some b)
 | .func fn first captured,v=>Ur fn=true/\∃f c,v= .func fn f c/\ay ρ first f.toList/\ay ρ captured c.toList
 | .yield l,v=>∃b N,ρ l=some (b,N)/\v= .func (.yield b) #[] #[]
 | .nilFunc,v=>v= .nilFunc
 | .iface t x,v=>∃y,v= .iface t y/\VR ρ x y
 | .nilIface,v=>v= .nilIface
 | .agg l,v=>∃a,v= .agg a/\ay ρ l a.toList
 | .tuple l,v=>∃a,v= .tuple a/\ay ρ l a.toList
 | .J9 n,v=>v= .string ⟨(List.replicate n (0:UInt8)).toArray⟩
def ay(ρ:Ren):List AV->List Value->Prop
 |[],l=>l=[]
 |x::xs,l=>∃y ys,l=y::ys/\VR ρ x y/\ay ρ xs ys
end
mutual
theorem VR.mono{ρ σ:Ren}(h:ρ.le σ):∀(x:AV) (v:Value),VR ρ x v->VR σ x v
 | .bool _,_,k=>by simpa only[VR] using k
 | .int _ _,_,k=>by simpa only[VR] using k
 | .str _,_,k=>by simpa only[VR] using k
 | .J9 _,_,k=>by simpa only[VR] using k
 | .ptr none,_,k=>by simpa only[VR] using k
 | .ptr (some (n,o)),_,k=>by simp only[VR] at k ⊢;obtain⟨b,N,e,r⟩:=k;exact⟨b,N,h _ _ e,r⟩
 | .slice none len (.known c),_,k=>by simpa only[VR] using k
 | .slice none _ (.aq _ _),_,k=>by simp only[VR] at k
 | .slice none _ .lost,_,k=>by simp only[VR] at k
 | .slice (some (n,o)) len .lost,_,k=>by simp only[VR] at k ⊢;obtain⟨l,b,N,p,c,e,r⟩:=k;exact⟨l,b,N,p,c,h _ _ e,r⟩
 | .slice (some (n,o)) len (.known c),_,k=>by simp only[VR] at k ⊢;obtain⟨b,N,e,r⟩:=k;exact⟨b,N,h _ _ e,r⟩
 | .slice (some (n,o)) len (.aq lo e),_,k=>by simp only[VR] at k ⊢;obtain⟨b,N,c,e,r⟩:=k;exact⟨b,N,c,h _ _ e,r⟩
 | .U n o len,_,k=>by simp only[VR] at k ⊢;rcases k with k|⟨b,sh,c,e,r⟩;exact .inl k;exact .inr ⟨b,sh,c,e.mono h,r⟩
 | .pG n o,_,k=>by simp only[VR] at k ⊢;obtain⟨b,sh,e,r⟩:=k;exact⟨b,sh,e.mono h,r⟩
 | .map none,_,k=>by simpa only[VR] using k
 | .map (some n),_,k=>by simp only[VR] at k ⊢;obtain⟨b,N,e,r⟩:=k;exact⟨b,N,h _ _ e,r⟩
 | .func fn first captured,_,k=>by simp only[VR] at k ⊢;obtain⟨p,f,c,e,r,s⟩:=k;exact⟨p,f,c,e,ay.mono h _ _ r,ay.mono h _ _ s⟩
 | .yield l,_,k=>by simp only[VR] at k ⊢;obtain⟨b,N,e,r⟩:=k;exact⟨b,N,h _ _ e,r⟩
 | .nilFunc,_,k=>by simpa only[VR] using k
 | .iface t x,_,k=>by simp only[VR] at k ⊢;obtain⟨y,e,r⟩:=k;exact⟨y,e,VR.mono h _ _ r⟩
 | .nilIface,_,k=>by simpa only[VR] using k
 | .agg l,_,k=>by simp only[VR] at k ⊢;obtain⟨a,e,r⟩:=k;exact⟨a,e,ay.mono h _ _ r⟩
 | .tuple l,_,k=>by simp only[VR] at k ⊢;obtain⟨a,e,r⟩:=k;exact⟨a,e,ay.mono h _ _ r⟩
theorem ay.mono{ρ σ:Ren}(h:ρ.le σ):∀(x:List AV) (v:List Value),ay ρ x v->ay σ x v
 |[],_,k=>by simpa only[ay] using k
 |x::xs,_,k=>by simp only[ay] at k ⊢;obtain⟨y,ys,e,r,s⟩:=k;exact⟨y,ys,e,VR.mono h _ _ r,ay.mono h _ _ s⟩
end
theorem ay.length{ρ:Ren}:∀{x:List AV} {v:List Value},ay ρ x v->x.length=v.length
 |[],_,k=>by simp only[ay] at k;subst k;rfl
 |x::xs,_,k=>by simp only[ay] at k;obtain⟨y,ys,rfl,_,s⟩:=k;simp[ay.length s]
theorem ay.get{ρ:Ren}:∀{x:List AV} {v:List Value},ay ρ x v->∀(i:Nat) (a:AV),x[i]? =some a->∃b,v[i]? =some b/\VR ρ a b
 |[],_,_,_,_,h=>by simp at h
 |x::xs,_,k,i,a,h=>by
  simp only[ay] at k;obtain⟨y,ys,rfl,r,s⟩:=k;cases i with
  |zero=>simp at h;subst h;exact⟨y,rfl,r⟩
  |succ i=>simp at h;obtain⟨b,hb,hr⟩:=ay.get s i a h;exact⟨b,by simpa using hb,hr⟩
theorem ay.append{ρ:Ren}:∀{x:List AV} {v:List Value} {x':List AV} {v':List Value},ay ρ x v->ay ρ x' v'->ay ρ (x++x') (v++v')
 |[],_,_,_,k,h=>by simp only[ay] at k;subst k;simpa using h
 |x::xs,_,_,_,k,h=>by simp only[ay] at k;obtain⟨y,ys,rfl,r,s⟩:=k;simp only[List.cons_append,ay];exact⟨y,_,rfl,r,ay.append s h⟩
theorem ay.Vn{ρ:Ren}:∀(x:List AV) (v:List Value),x.length=v.length->(∀(i:Nat) (a:AV) (b:Value),x[i]? =some a->v[i]? =some b->VR ρ a b)->ay ρ x v
 |[],[],_,_=>by simp only[ay]
 |[],_::_,h,_=>by simp at h
 |_::_,[],h,_=>by simp at h
 |x::xs,y::ys,h,k=>by simp only[ay];exact⟨y,ys,rfl,k 0 x y rfl rfl,ay.Vn xs ys (by simpa using h) fun i a b ha hb=>k (i+1) a b (by simpa using ha)<|by simpa using hb⟩
theorem ay.take{ρ:Ren}:∀(n:Nat) {x:List AV} {v:List Value},ay ρ x v->ay ρ (x.take n) (v.take n)
 |0,_,_,_=>by simp[ay]
 |n+1,[],_,k=>by simp only[ay] at k;subst k;simp[ay]
 |n+1,x::xs,_,k=>by simp only[ay] at k;obtain⟨y,ys,rfl,r,s⟩:=k;simp only[List.take_succ_cons,ay];exact⟨y,_,rfl,r,ay.take n s⟩
theorem ay.drop{ρ:Ren}:∀(n:Nat) {x:List AV} {v:List Value},ay ρ x v->ay ρ (x.drop n) (v.drop n)
 |0,_,_,k=>by simpa using k
 |n+1,[],_,k=>by simp only[ay] at k;subst k;simp[ay]
 |n+1,x::xs,_,k=>by simp only[ay] at k;obtain⟨y,ys,rfl,r,s⟩:=k;simpa using ay.drop n s
def qf:AV:=.tuple []
theorem VR.undef(ρ:Ren):VR ρ qf Go.undef:=by simp only[qf,Go.undef,VR,ay];exact⟨#[],rfl,rfl⟩
def AV.cells:AV->List AV
 | .agg l=>l
 |v=>[v]
theorem VR.cells{ρ:Ren}{x:AV}(h:VR ρ x v):ay ρ x.cells v.cells.toList:=by
 cases x<;>(try (simp only[VR] at h;subst h;simp only[AV.cells,Value.cells,ay,VR];exact⟨_,_,rfl,rfl,rfl⟩))
 case ptr a=>
  cases a with
  |none=>simp only[VR] at h;subst h;simp only[AV.cells,Value.cells,ay,VR];exact⟨_,_,rfl,rfl,rfl⟩
  |some a=>obtain⟨n,o⟩:=a;have h':=h;simp only[VR] at h';obtain⟨b,N,_,rfl⟩:=h';simp only[AV.cells,Value.cells,ay];exact⟨_,_,rfl,h,rfl⟩
 case slice a len cap=>
  have:∃p q r,v= .slice p q r:=by
   cases a with
   |none=>cases cap<;>simp only[VR] at h;exact⟨_,_,_,h.1⟩
   |some a=>
    obtain⟨n,o⟩:=a;cases cap<;>simp only[VR] at h
    ·obtain⟨b,N,_,rfl⟩:=h;exact⟨_,_,_,rfl⟩
    ·obtain⟨b,N,c,_,rfl,_⟩:=h;exact⟨_,_,_,rfl⟩
    ·obtain⟨_,b,N,p,c,_,rfl⟩:=h;exact⟨_,_,_,rfl⟩
  obtain⟨p,q,r,rfl⟩:=this;simp only[AV.cells,Value.cells,ay];exact⟨_,_,rfl,h,rfl⟩
 case U n o len=>
  have h':=h;simp only[VR] at h';rcases h' with⟨_,_,_,_,rfl,_⟩|⟨b,sh,c,_,rfl,_⟩<;>
  (simp only[AV.cells,Value.cells,ay];exact⟨_,_,rfl,h,rfl⟩)
 case pG n o=>have h':=h;simp only[VR] at h';obtain⟨b,sh,_,rfl⟩:=h';simp only[AV.cells,Value.cells,ay];exact⟨_,_,rfl,h,rfl⟩
 case map a=>
  cases a with
  |none=>simp only[VR] at h;subst h;simp only[AV.cells,Value.cells,ay,VR];exact⟨_,_,rfl,rfl,rfl⟩
  |some a=>have h':=h;simp only[VR] at h';obtain⟨b,N,_,rfl⟩:=h';simp only[AV.cells,Value.cells,ay];exact⟨_,_,rfl,h,rfl⟩
 case func fn f c=>have h':=h;simp only[VR] at h';obtain⟨_,_,_,rfl,_⟩:=h';simp only[AV.cells,Value.cells,ay];exact⟨_,_,rfl,h,rfl⟩
 case yield l=>have h':=h;simp only[VR] at h';obtain⟨_,_,_,rfl⟩:=h';simp only[AV.cells,Value.cells,ay];exact⟨_,_,rfl,h,rfl⟩
 case iface t x=>have h':=h;simp only[VR] at h';obtain⟨_,rfl,_⟩:=h';simp only[AV.cells,Value.cells,ay];exact⟨_,_,rfl,h,rfl⟩
 case agg l=>simp only[VR] at h;obtain⟨a,rfl,k⟩:=h;simpa only[AV.cells,Value.cells] using k
 case tuple l=>have h':=h;simp only[VR] at h';obtain⟨_,rfl,_⟩:=h';simp only[AV.cells,Value.cells,ay];exact⟨_,_,rfl,h,rfl⟩
def AV.bR:AV->Bool
 | .agg _| .tuple _=>false
 |_=>true
theorem VR.bR{ρ:Ren}{x:AV}(h:VR ρ x v)(hx:x.bR=true):∀cs,v≠ .agg cs/\v≠ .tuple cs:=by
 intro cs;cases x<;>(try (simp only[VR] at h;subst h;simp;done))<;>(try (simp[AV.bR] at hx;done))
 case ptr a=>
  cases a with
  |none=>simp only[VR] at h;subst h;simp
  |some a=>obtain⟨n,o⟩:=a;simp only[VR] at h;obtain⟨_,_,_,rfl⟩:=h;simp
 case slice a len cap=>
  cases a with
  |none=>cases cap<;>simp only[VR] at h;rw[h.1];simp
  |some a=>
   obtain⟨n,o⟩:=a;cases cap<;>simp only[VR] at h
   ·obtain⟨_,_,_,rfl⟩:=h;simp
   ·obtain⟨_,_,_,_,rfl,_⟩:=h;simp
   ·obtain⟨_,_,_,_,_,_,rfl⟩:=h;simp
 case U n o len=>simp only[VR] at h;rcases h with⟨_,_,_,_,rfl,_⟩|⟨_,_,_,_,rfl,_⟩<;>simp
 case pG n o=>simp only[VR] at h;obtain⟨_,_,_,rfl⟩:=h;simp
 case map a=>
  cases a with
  |none=>simp only[VR] at h;subst h;simp
  |some a=>simp only[VR] at h;obtain⟨_,_,_,rfl⟩:=h;simp
 case func fn f c=>simp only[VR] at h;obtain⟨_,_,_,rfl,_⟩:=h;simp
 case yield l=>simp only[VR] at h;obtain⟨_,_,_,rfl⟩:=h;simp
 case iface t x=>simp only[VR] at h;obtain⟨_,rfl,_⟩:=h;simp
inductive ae where
 |cells (n:Nat) (t:Tr AV) (z:List AV)
 |map (es:List<|AV×AV) (bq:Nat)
 |lv (es:List<|AV×AV)
 |loop (st:LoopState) (bN:Option Code) (fn:FuncId) (tmps:Tr AV) (nt:Nat) (params:List Tmp) (assign body:Code) (defers:Nat)
 |defs
 |ro (n:Nat) (t:Tr AV)
 |tz (n:Nat) (t:Tr AV)
 |Ft (s:ByteArray) (pos:Nat)
 |iter (m:Nat) (es:List<|AV×AV) (exact:Bool) (left:List<|AV×AV) (cur:Option<|AV×AV)
 |iy
 |tok (k:Nat) (v:AV)
 deriving Inhabited
noncomputable def cellAt(t:Tr AV)(z:List AV)(i:Nat):Option AV:=
 match t.get i with
 |some v=>some v
 |none=>z[i % z.length]?
def ae.dk:ae->Bool
 | .ro _ _=>true
 | .tz _ _=>true
 | .tok _ _=>true
 |_=>false
def ae.mL:ae->Bool
 | .ro _ _=>true
 | .tz _ _=>true
 |_=>false
theorem ae.ki:∀{o:ae},o.mL=true->o.dk=true
 | .ro _ _,_=>rfl
 | .tz _ _,_=>rfl
 | .cells _ _ _,h=>by cases h
 | .map _ _,h=>by cases h
 | .lv _,h=>by cases h
 | .loop _ _ _ _ _ _ _ _ _,h=>by cases h
 | .defs,h=>by cases h
 | .Ft _ _,h=>by cases h
 | .iter _ _ _ _ _,h=>by cases h
 | .iy,h=>by cases h
 | .tok _ _,h=>by cases h
def TR(ρ:Ren)(nt:Nat)(t:Tr AV)(a:Array Value):Prop:=a.size=nt/\∀i x,t.get i=some x->VR ρ x (a.getD i Go.undef)
theorem TR.mono{ρ σ:Ren}(h:ρ.le σ){t:Tr AV}(k:TR ρ nt t a):TR σ nt t a:=⟨k.1,fun i x e=>VR.mono h _ _<|k.2 i x e⟩
theorem TR.set{ρ:Ren}{t:Tr AV}(k:TR ρ nt t a){d:Nat}{x:AV}(hd:d<nt)(ht:nt<=top)(h:VR ρ x v):
 TR ρ nt (t.put d<|some x) (a.setIfInBounds d v):=by
 refine⟨by simp[k.1],fun i y hy=>?_⟩;rw[Tr.lP _ _ _ _ aj] at hy;by_cases e:i=d
 ·subst e;have:(a.setIfInBounds i v).getD i Go.undef=v:=by rw[Array.getD_eq_getD_getElem?,Array.getElem?_setIfInBounds_self_of_lt (by rw[k.1];exact hd)];rfl
  rw[if_pos rfl] at hy;injection hy with hy;subst hy
  rw[this];exact h
 ·have:(a.setIfInBounds d v).getD i Go.undef=a.getD i Go.undef:=by rw[Array.getD_eq_getD_getElem?,Array.getElem?_setIfInBounds_ne aj, ←Array.getD_eq_getD_getElem?]
  rw[if_neg e] at hy;rw[this];exact k.2 i y hy
def j0(ρ:Ren):List (AV×AV)->List MapEntry->Nat->Prop
 |[],l,_=>l=[]
 |x::xs,l,i=>∃e es,l=e::es/\VR ρ x.1 e.key/\VR ρ x.2 e.val/\e.born=i/\j0 ρ xs es (i+1)
theorem j0.mono{ρ σ:Ren}(h:ρ.le σ):∀(x:List<|AV×AV) (l:List MapEntry) (i:Nat),j0 ρ x l i->j0 σ x l i
 |[],_,_,k=>k
 |x::xs,_,i,k=>by obtain⟨e,es,r,a,b,c,d⟩:=k;exact⟨e,es,r,VR.mono h _ _ a,VR.mono h _ _ b,c,j0.mono h xs es _ d⟩
def dP(ρ:Ren):List (AV×AV)->List MapEntry->Prop
 |[],l=>l=[]
 |x::xs,l=>∃e es,l=e::es/\VR ρ x.1 e.key/\VR ρ x.2 e.val/\dP ρ xs es
theorem dP.mono{ρ σ:Ren}(h:ρ.le σ):∀(x:List<|AV×AV) (l:List MapEntry),dP ρ x l->dP σ x l
 |[],_,k=>k
 |x::xs,_,k=>by obtain⟨e,es,r,a,b,d⟩:=k;exact⟨e,es,r,VR.mono h _ _ a,VR.mono h _ _ b,dP.mono h xs es d⟩
theorem j0.eqs{ρ:Ren}:∀{x:List<|AV×AV} {l:List MapEntry} {i:Nat},j0 ρ x l i->dP ρ x l
 |[],_,_,k=>k
 |_::_,_,_,k=>by obtain⟨e,es,r,a,b,_,d⟩:=k;exact⟨e,es,r,a,b,d.eqs⟩
def vZ(ρ:Ren)(es:List<|AV×AV)(l:List MapEntry):Prop:=∃l',l.Perm l'/\dP ρ es l'
theorem vZ.mono{ρ σ:Ren}(h:ρ.le σ){x:List<|AV×AV}{l:List MapEntry}(k:vZ ρ x l):vZ σ x l:=by obtain⟨l',p,n⟩:=k;exact⟨l',p,n.mono h⟩
def sameKey:AV->AV->Option Bool
 | .int k a,.int k' b=>match decide (k=k') with
  |true=>some<|a == b
  |false=>none
 | .str a,.str b=>some<|a == b
 | .bool a,.bool b=>some<|a == b
 |_,_=>none
def lu(es:List<|AV×AV):Prop:=es.Pairwise fun a b=>sameKey a.1 b.1=some false/\sameKey b.1 a.1=some false
def sW(l:List MapEntry)(bq:Nat):Prop:=(l.map (·.born)).Nodup/\∀e∈l,e.born<bq
def OR(ρ:Ren)(N:Nat):ae->Obj->Prop
 | .cells n t z,o=>∃c e,o= .cells c e (0,0)/\c.size=N/\n<=N/\∀i,i<n->∃x v,cellAt t z i=some x/\x.bR=true/\c[i]? =some v/\VR ρ x v
 | .map es bq,o=>∃l,o= .map l bq/\bq=es.length/\j0 ρ es l.toList 0
 | .lv es,o=>∃l bq,o= .map l bq/\lu es/\sW l.toList bq/\vZ ρ es l.toList
 | .loop st bN fn tmps nt params assign body defers,o=>∃a b M,o= .loop {state:=st,pending:=bN,fn,tmps:=a,params:=params.toArray,assign,body,defers:=b}/\TR ρ nt tmps a/\nt<=top/\ρ defers=some (b,M)/\FF bN assign body
 | .defs,o=>o= .deferred (some [])
 | .ro n t,o=>∃c e fr,o= .cells c e fr/\c.size=N/\n=N/\∀i,i<n->∃x v,t.get i=some x/\x.bR=true/\c[i]? =some v/\VR ρ x v
 | .tz n t,o=>∃c e fr,o= .cells c e fr/\∀i,i<n->∃x v,t.get i=some x/\x.bR=true/\c[N+i]? =some v/\VR ρ x v
 | .Ft s pos,o=>o= .stringIter s pos
 | .iter m _ _ _ _,o=>∃b M c s,ρ m=some (b,M)/\o= .mapIter (some b) c s c
 | .iy,o=>∃l bq,o= .map l bq
 | .tok _ _,_=>True
theorem OR.mono{ρ σ:Ren}(h:ρ.le σ){N:Nat}{x:ae}{o:Obj}(k:OR ρ N x o):OR σ N x o:=by
 cases x<;>simp only[OR] at k ⊢
 case cells n t z=>obtain⟨c,e,r,s,u,f⟩:=k;exact⟨c,e,r,s,u,fun i hi=>let ⟨x,v,a,b,d,q⟩:=f i hi;⟨x,v,a,b,d,VR.mono h _ _ q⟩⟩
 case map es bq=>obtain⟨l,r,c,s⟩:=k;exact⟨l,r,c,j0.mono h _ _ _ s⟩
 case lv es=>obtain⟨l,c,r,a,b,s⟩:=k;exact⟨l,c,r,a,b,s.mono h⟩
 case loop st bN fn tmps nt params assign body defers=>obtain⟨a,b,M,r,s,q,u,v⟩:=k;exact⟨a,b,M,r,s.mono h,q,h _ _ u,v⟩
 case defs=>exact k
 case ro n t=>obtain⟨c,e,q,r,s,u,f⟩:=k;exact⟨c,e,q,r,s,u,fun i hi=>let ⟨x,v,a,b,d,q⟩:=f i hi;⟨x,v,a,b,d,VR.mono h _ _ q⟩⟩
 case tz n t=>obtain⟨c,e,q,r,f⟩:=k;exact⟨c,e,q,r,fun i hi=>let ⟨x,v,a,b,d,q⟩:=f i hi;⟨x,v,a,b,d,VR.mono h _ _ q⟩⟩
 case Ft s pos=>exact k
 case iter m es ex left cur=>obtain⟨b,M,c,s,r,q⟩:=k;exact⟨b,M,c,s,h _ _ r,q⟩
 case iy=>exact k
def mV(ρ:Ren)(w:World)(n m:Nat)(es:List<|AV×AV)(exact:Bool)(left:List<|AV×AV)(cur:Option<|AV×AV):Prop:=
 ∃b N bm M l bq seen,ρ n=some (b,N)/\ρ m=some (bm,M)/\w.heap[b]? =some (.mapIter (some bm) bq seen bq)/\w.heap[bm]? =some (.map l bq)/\
  sW l.toList bq/\(exact=true->bq=es.length/\j0 ρ es l.toList 0)/\(exact=false->lu es/\vZ ρ es l.toList)/\
  vZ ρ left (l.toList.filter fun e=> !seen.contains e.born)/\
  (match cur with
  |none=>seen= #[]
  |some x=>∃e,e∈l.toList/\seen.back?=some e.born/\VR ρ x.1 e.key/\VR ρ x.2 e.val)
theorem mV.mono{ρ σ:Ren}(h:ρ.le σ){m:Nat}{es:List<|AV×AV}{ex:Bool}{left:List<|AV×AV}{cur:Option<|AV×AV}(k:mV ρ w n m es ex left cur):mV σ w n m es ex left cur:=by
 obtain⟨b,N,bm,M,l,bq,seen,h1,h2,h3,h4,h5,h6,h7,h8,h9⟩:=k;refine⟨b,N,bm,M,l,bq,seen,h _ _ h1,h _ _ h2,h3,h4,h5,fun e=>⟨(h6 e).1,(h6 e).2.mono h⟩,fun e=>⟨(h7 e).1,(h7 e).2.mono h⟩,h8.mono h,?_⟩;cases cur with
 |none=>exact h9
 |some x=>obtain⟨e,a,b,c,d⟩:=h9;exact⟨e,a,b,VR.mono h _ _ c,VR.mono h _ _ d⟩
structure aI where
 may:Nat->Prop
 F:Nat->Option (List AV)
 dy:Nat->Prop
 inv:Nat->AV->Ren->World->Nat->(Nat->Prop)->Prop
 lim:Nat
 mono:∀{k v ρ σ w w' b H},inv k v ρ w b H->(∀m x,top<=m->ρ m=some x->σ m=some x)->(∀x,H x->w'.heap[x]? =w.heap[x]?)->inv k v σ w' b H
def aeA(W:World):aI:=⟨fun k=>W.heap.size<=k,fun _=>none,fun _=>True,fun _ _ _ _ _ _=>False,W.heap.size,fun h _ _=>h⟩
def j8(ρ:Ren)(h:Tr ae)(b:Nat):Prop:=∀m o N,m<top->h.get m=some o->o.dk=false->ρ m≠some (b,N)
def gp(ρ:Ren):Ren:=fun k=>if top<=k then ρ k else none
theorem Ja(ρ:Ren):(gp ρ).le ρ:=by
 intro k x e;unfold gp at e;split at e
 ·exact e
 ·cases e
theorem Fe{ρ σ:Ren}(h:ρ.le σ):(gp ρ).le<|gp σ:=by
 intro k x e;unfold gp at e ⊢;split at e
 ·rename_i q;rw[if_pos q];exact h _ _ e
 ·cases e
def Fz(B:aI)(ρ:Ren)(h:Tr ae)(w:World):Prop:=∀n b sh,ρ (hn n b sh)≠none->(B.dy (hn n b sh)\/B.may b)/\∃l c e fr,B.F n=some l/\w.heap[b]? =some (.cells c e fr)/\j8 ρ h b/\∀i x,l[i]? =some x->∃v,c[sh+i]? =some v/\VR (gp ρ) x v/\x.bR=true
def uf(B:aI)(ρ:Ren)(h:Tr ae)(w:World):Prop:=(B.lim<=w.heap.size/\∀m o,m<top->h.get m=some o->o.mL=true->∃b N,ρ m=some (b,N)/\b<B.lim)/\∃H:Nat->Nat->Prop,(∀n k v,n<top->h.get n=some (.tok k v)->∃b N,ρ n=some (b,N)/\B.inv k v ρ w b (H n)/\H n b/\∀x,H n x->(x<w.heap.size/\B.lim<=x)/\B.may x/\j8 ρ h x/\∀j sh,ρ (hn j x sh)=none)/\∀n m x k v k' v',n<top->m<top->h.get n=some (.tok k v)->h.get m=some (.tok k' v')->n≠m->H n x->¬H m x
theorem uf.of{B:aI}{ρ σ:Ren}{h h':Tr ae}{w':World}(f:uf B ρ h w)(hl:ρ.le σ)(ht:∀n o,n<top->h'.get n=some o->o.dk=true->h.get n=some o)(hs:w.heap.size<=w'.heap.size)(hw:∀b,b<w.heap.size->j8 ρ h b->w'.heap[b]? =w.heap[b]?)(hd:∀b,b<w.heap.size->j8 ρ h b->j8 σ h' b)(hm:∀j x sh,x<w.heap.size->j8 ρ h x->ρ (hn j x sh)=none->σ (hn j x sh)=none):uf B σ h' w':=by
 obtain⟨h0,H,h1,h2⟩:=f;refine⟨⟨Nat.le_trans h0.1 hs,fun m o fc hg hf=>?_⟩,H,fun n k v hn hg=>?_,fun n m x k v k' v' hn fc g1 g2=>h2 n m x k v k' v' hn fc (ht _ _ hn g1 rfl)<|ht _ _ fc g2 rfl⟩
 ·obtain⟨b,N,e1,e2⟩:=h0.2 m o fc (ht _ _ fc hg<|ae.ki hf) hf;exact⟨b,N,hl _ _ e1,e2⟩
 obtain⟨b,N,a1,a2,a3,a4⟩:=h1 n k v hn<|ht _ _ hn hg rfl;refine⟨b,N,hl _ _ a1,B.mono a2 (fun m x _ e=>hl _ _ e) fun x hx=>?_,a3,fun x hx=>?_⟩
 ·obtain⟨⟨c1,_⟩,_,c3,_⟩:=a4 x hx;exact hw x c1 c3
 ·obtain⟨⟨c1,cl⟩,c2,c3,c4⟩:=a4 x hx;exact⟨⟨Nat.lt_of_lt_of_le c1 hs,cl⟩,c2,hd x c1 c3,fun j sh=>hm j x sh c1 c3<|c4 j sh⟩
theorem uf.no{B:aI}{ρ:Ren}{h:Tr ae}(hn:∀n k v,n<top->h.get n=some (.tok k v)->False)(hl:B.lim<=w.heap.size/\∀m o,m<top->h.get m=some o->o.mL=true->∃b N,ρ m=some (b,N)/\b<B.lim):uf B ρ h w:=⟨hl,fun _ _=>False,fun n k v ht hg=>(hn n k v ht hg).elim,fun n _ _ k v _ _ ht _ hg _ _ _=>(hn n k v ht hg).elim⟩
structure Rel (B:aI) (ρ:Ren) (h:Tr ae) (w:World):Prop where
 is:∀n o,n<top->h.get n=some o->∃b N o',ρ n=some (b,N)/\w.heap[b]? =some o'/\OR ρ N o o'/\(o.dk=false->B.may b)
 one:∀n m o p b N M,n<top->m<top->h.get n=some o->h.get m=some p->(o.dk=false\/p.dk=false)->ρ n=some (b,N)->ρ m=some (b,M)->n=m
 iter:∀n m es ex left cur,n<top->h.get n=some (.iter m es ex left cur)->m<top/\h.get m=some .iy/\mV ρ w n m es ex left cur
 size:∀k,w.heap.size<=k->B.may k
 lone:∀i j m es ex left cur gY iW iH iJ,i<top->j<top->h.get i=some (.iter m es ex left cur)->h.get j=some (.iter m gY iW iH iJ)->i=j
 fz:Fz B ρ h w
 tk:uf B ρ h w
end Go.Rn
namespace Go.Rn
variable {α β:Type}
structure AS where
 h:Tr ae
 nx:Nat
 mark:Nat
 rd:List Nat
 wr:List Nat
inductive R (α:Type) where
 |bad
 |ok (a:α) (s:AS)
def M(α:Type):Type:=AS->R α
noncomputable def M.pure(a:α):M α:=fun s=>.ok a s
noncomputable def M.bind(m:M α)(f:α->M β):M β:=fun s=> @R.rec α (fun _=>R β) .bad (fun a s1=>f a s1)<|m s
noncomputable instance:Monad M where
 pure:=M.pure
 bind:=M.bind
noncomputable def fail:M α:=fun _=>.bad
noncomputable def lift(o:Option α):M α:=fun s=> @Option.rec α (fun _=>R α) .bad (fun a=>.ok a s) o
noncomputable def aA(o:Option α)(f:α->M β):M β:=fun s=> @Option.rec α (fun _=>R β) .bad (fun a=>f a s) o
noncomputable def pH(b:Bool):M Unit:=fun s=> @Bool.rec (fun _=>R Unit) .bad (.ok () s) b
noncomputable def aF(b:Bool)(m:M β):M β:=fun s=> @Bool.rec (fun _=>R β) .bad (m s) b
noncomputable def forced(n:Nat)(k:Nat->α):α:= @Nat.rec (fun _=>α) (k 0) (fun m _=>k<|m+1) n
theorem yL(n:Nat)(k:Nat->α):forced n k=k n:=by cases n<;>rfl
noncomputable def bu(n:Nat):M ae:=fun s=>
 @AS.rec (fun _=>R ae) (fun h nx mark rd wr=>
  @Bool.rec (fun _=>R ae) .bad
   (@Option.rec ae (fun _=>R ae) .bad
    (fun o=> @Bool.rec (fun _=>R ae) (.ok o ⟨h,nx,mark,rd,wr⟩) (.ok o ⟨h,nx,mark,n::rd,wr⟩)<|Nat.blt n mark)
    (h.get n))
   (Nat.blt n nx)) s
noncomputable def bK(n:Nat)(o:Option ae):M Unit:=fun s=>
 @AS.rec (fun _=>R Unit) (fun h nx mark rd wr=>
  @Bool.rec (fun _=>R Unit) .bad
   (@Option.rec ae (fun _=>R Unit) .bad
    (fun p=> @Bool.rec (fun _=>R Unit)
     (@Bool.rec (fun _=>R Unit) (.ok () ⟨h.put n o,nx,mark,rd,wr⟩) (.ok () ⟨h.put n o,nx,mark,n::rd,n::wr⟩)<|Nat.blt n mark)
     .bad p.dk)
    (h.get n))
   (and (Nat.blt n nx)<|Nat.blt n top)) s
noncomputable def gC(o:ae):M Nat:=fun s=> @AS.rec (fun _=>R Nat) (fun h nx mark rd wr=> @Bool.rec (fun _=>R Nat) .bad (forced nx fun m=>.ok m ⟨h.put m<|some o,m+1,mark,rd,wr⟩)<|Nat.blt nx top) s
end Go.Rn
namespace Go.Rn
noncomputable section
def FG:Value->Option AV
 | .bool b=>some<|.bool b
 | .int k n=>some<|.int k n
 | .string s=>some<|.str s
 | .pointer none=>some<|.ptr none
 | .slice none len cap=>match Nat.beq len 0&&Nat.beq cap 0 with
  |true=>some<|.slice none 0<|.known 0
  |false=>none
 | .map none=>some<|.map none
 | .nilFunc=>some .nilFunc
 | .nilIface=>some .nilIface
 |_=>none
def wU:List Value->Option (List AV)
 |[]=>some []
 |v::l=>match FG v with
  |none=>none
  |some x=>match wU l with
   |none=>none
   |some r=>some<|x::r
def ofValue:Value->Option AV
 | .agg cs=>match wU cs.toList with
  |none=>none
  |some l=>some<|.agg l
 | .tuple cs=>match wU cs.toList with
  |none=>none
  |some l=>some<|.tuple l
 |v=>FG v
def fL:Nat:=256
def aG(t:Tr AV)(x:Operand):Option AV:= @Operand.rec (fun _=>Option AV) (fun i=>t.get i) (fun v=>ofValue v) (fun g=> @Bool.rec (fun _=>Option AV) none (some<|.ptr<|some (g,0))<|Nat.blt g fL) (fun f=>some<|.func (.func f) [] []) x
def eD(P:Program)(t:TypeId):Option Nat:=
 match P.info? t with
 |none=>none
 |some i=>some i.size
def qj(P:Program)(t:TypeId):Option AV:=
 match P.info? t with
 |none=>none
 |some i=>match i.zero with
  |none=>none
  |some v=>ofValue v
def qx(P:Program)(t:TypeId):Option Bool:=
 match P.underlying t with
 |some (.struct _)=>some true
 |some (.array _ _)=>some true
 |some _=>some false
 |none=>none
def lS(t:Tr AV)(z:List AV):Nat->Nat->Option (List AV)
 |0,_=>some []
 |k+1,off=>match cellAt t z off with
  |none=>none
  |some v=>match lS t z k (off+1) with
   |none=>none
   |some l=>some<|v::l
def jc(n off:Nat):Nat->M (List AV)
 |0=>M.pure []
 |k+1=>(bu n).bind fun o=>match o with
  | .cells m t z=>aF (Nat.ble (off+(k+1)) m) <| lift<|lS t z (k+1) off
  | .ro m t=>aF (Nat.ble (off+(k+1)) m) <| lift<|lS t [] (k+1) off
  |_=>fail
def qW(n off:Nat)(l:List AV):M Unit:=
  match l with
  |[]=>M.pure ()
  | x ::r=>(bu n).bind fun o=>match o with
    | .cells m t z=>aF (and (Nat.ble (off+(r.length+1)) m)<|and (Nat.ble m top)<|(x::r).all AV.bR) <|
      bK n (some<|.cells m (Tr.fill (x::r) off t) z)
    |_=>fail
def newRow(l:List AV):M Nat:=aF (and (Nat.ble l.length top)<|l.all AV.bR) <| gC<|.cells l.length (Tr.fill l 0 .nil) []
def one:List AV->Option AV
 |[v]=>some v
 |_=>none
def loadVar(P:Program)(t:TypeId)(n off:Nat):M AV:=
 aA (qx P t) fun ag=>match ag with
  |true=>aA (eD P t) fun k=>(jc n off k).bind fun l=>M.pure<|.agg l
  |false=>(jc n off 1).bind fun l=>lift<|one l
def storeVar(P:Program)(t:TypeId)(n off:Nat)(v:AV):M Unit:=aA (eD P t) fun k=>aF (Nat.beq v.cells.length k) <| qW n off v.cells
def addrOf:AV->Option (Nat×Nat)
 | .ptr (some a)=>some a
 |_=>none
def intOf:AV->Option Int
 | .int _ n=>some n
 |_=>none
def xg:AV->Option Bool
 | .bool b=>some b
 |_=>none
def vq(P:Program)(t:TypeId)(cs:List AV)(off:Nat):Option AV:=
 match qx P t with
 |none=>none
 |some true=>match eD P t with
  |none=>none
  |some k=>some<|.agg<|(cs.drop off).take k
 |some false=>cs[off]?
def setCells:List AV->List AV->Nat->List AV
 |cs,[],_=>cs
 |cs,c::l,off=>setCells (cs.set off c) l<|off+1
def xh(place:Nat->Option (Nat×Nat)):List AV->List (Nat×AV)->Option (List AV)
 |cells,[]=>some cells
 |cells,(i,v)::rest=>match place i with
  |none=>none
  |some (off,size)=>
   match Nat.beq v.cells.length size&&Nat.ble (off+v.cells.length) cells.length with
   |false=>none
   |true=>xh place (setCells cells v.cells off) rest
def jU(ev:Operand->Option AV):List Operand->Option (List AV)
 |[]=>some []
 |x::l=>match ev x with
  |none=>none
  |some v=>match jU ev l with
   |none=>none
   |some r=>some<|v::r
def vt(ev:Operand->Option AV):List (Nat×Operand)->Option (List<|Nat×AV)
 |[]=>some []
 |(i,x)::l=>match ev x with
  |none=>none
  |some v=>match vt ev l with
   |none=>none
   |some r=>some<|(i,v)::r
def AI(P:Program):List Field->Option (List<|Nat×Nat)
 |[]=>some []
 |f::l=>match eD P f.type with
  |none=>none
  |some k=>match AI P l with
   |none=>none
   |some r=>some<|(f.offset,k)::r
def build(P:Program)(t:TypeId)(parts:List<|Nat×AV):Option AV:=
 match qj P t with
 |none=>none
 |some z=>match P.underlying t with
  |some (.struct fs)=>match AI P fs.toList with
   |none=>none
   |some pl=>match xh (fun i=>pl[i]?) z.cells parts with
    |none=>none
    |some l=>some<|.agg l
  |some (.array _ e)=>match eD P e with
   |none=>none
   |some k=>match xh (fun i=>some (i*k,k)) z.cells parts with
    |none=>none
    |some l=>some<|.agg l
  |_=>none
def Ff:Nat->List AV->List AV
 |0,_=>[]
 |n+1,z=>z++Ff n z
def buildSlice(P:Program)(t:TypeId)(len:Nat)(parts:List<|Nat×AV):M AV:=do
  match P.underlying t with
  | some (.slice e)=>do
    let k ←lift (eD P e)
    let z ←lift (qj P e)
    pH (Nat.ble (len*k) 1048576&&Nat.beq z.cells.length k)
    let l ←lift (xh (fun i=>some (i*k,k)) (Ff len z.cells) parts)
    let r ←newRow l
    pure (.slice (some (r,0)) len<|.known len)
  |_=>fail
def fieldAddr(P:Program)(s:TypeId)(x:AV)(field:Nat):Option AV:=
 match P.underlying s with
 |some (.struct fs)=>match fs[field]? with
  |none=>none
  |some f=>match eD P f.type with
   |none=>none
   |some k=>match Nat.beq k 0 with
    |true=>none
    |false=>match x with
     | .ptr (some (n,o))=>some<|.ptr<|some (n,o+f.offset)
     | .pG n o=>some<|.pG n<|o+f.offset
     |_=>none
 |_=>none
def Us(P:Program)(s:TypeId)(x:AV)(field:Nat):Option AV:=
 match P.underlying s,x with
 |some (.struct fs),.agg cs=>match fs[field]? with
  |none=>none
  |some f=>vq P f.type cs f.offset
 |_,_=>none
def within(i:Int)(len:Nat):Option Nat:=
 match i with
 | .ofNat n=>match Nat.blt n len with
  |true=>some n
  |false=>none
 | .negSucc _=>none
def indexAddr(P:Program)(t:TypeId)(x ix:AV):Option AV:=
 match intOf ix with
 |none=>none
 |some i=>match P.underlying t,x with
  |some (.array len e),.ptr (some (n,o))=>match within i len,eD P e with
   |some j,some k=>some<|.ptr<|some (n,o+j*k)
   |_,_=>none
  |some (.slice e),.slice (some (n,o)) len _=>match within i len,eD P e with
   |some j,some k=>some<|.ptr<|some (n,o+j*k)
   |_,_=>none
  |some (.slice e),.U n o len=>match within i len,eD P e with
   |some j,some k=>some<|.pG n<|o+j*k
   |_,_=>none
  |_,_=>none
def indexOf(P:Program)(t:TypeId)(x ix:AV):Option AV:=
 match intOf ix with
 |none=>none
 |some i=>match P.underlying t,x with
  |some (.array len e),.agg cs=>match within i len,eD P e with
   |some j,some k=>vq P e cs<|j*k
   |_,_=>none
  |some .string,.str s=>match within i s.size with
   |some j=>match s.data.toList[j]? with
    |some b=>some<|.int .u8 b.toNat
    |none=>none
   |none=>none
  |_,_=>none
def bound(x:Option AV)(tL ahB:Nat):Option Nat:=
 match x with
 |none=>some ahB
 |some v=>match intOf v with
  |none=>none
  |some i=>within i<|tL+1
def opt(ev:Operand->Option AV):Option Operand->Option (Option AV)
 |none=>some none
 |some x=>match ev x with
  |none=>none
  |some v=>some<|some v
def jd(len:Nat)(c:bZ):Nat:=
 match c with
 | .known c=>c
 | .aq lo _=>lo
 | .lost=>len
def slice3(k:Nat)(a:Option<|Nat×Nat)(low:Nat)(lo hi:Option AV)(mx:AV):Option AV:=
 match bound (some mx) low 0 with
 |none=>none
 |some m=>match hi with
  |none=>none
  |some hi=>match bound (some hi) m 0 with
   |none=>none
   |some h=>match bound lo h 0 with
    |none=>none
    |some l=>match a with
     |none=>some<|.slice none (h - l)<|.known<|m - l
     |some (n,o)=>match Nat.beq m l with
      |true=>some<|.slice (some (n,o)) (h - l)<|.known<|m - l
      |false=>some<|.slice (some (n,o+l*k)) (h - l)<|.known<|m - l
def wV(P:Program)(t:TypeId)(x:AV)(lo hi mx:Option AV):Option AV:=
 match P.underlying t,x with
 |some (.slice e),.slice a len cap=>
  match eD P e with
  |none=>none
  |some k=>
   match mx with
   |some mx=>match cap with
    | .lost=>none
    |cap=>slice3 k a (jd len cap) lo hi mx
   |none=>
    match bound hi (jd len cap) len with
    |none=>none
    |some h=>match bound lo h 0 with
     |none=>none
     |some l=>match a,cap with
      |none,.known c=>some<|.slice none (h - l)<|.known<|c - l
      |none,_=>none
      |some (n,o),.known c=>match Nat.beq c l with
       |true=>some<|.slice (some (n,o)) (h - l)<|.known<|c - l
       |false=>some<|.slice (some (n,o+l*k)) (h - l)<|.known<|c - l
      |some (n,o),.aq b e=>match Nat.beq l 0 with
       |true=>some<|.slice (some (n,o)) (h - l)<|.aq b e
       |false=>none
      |some _,.lost=>none
 |some (.array len e),.ptr (some (n,o))=>
  match eD P e with
  |none=>none
  |some k=>match mx with
   |some _=>none
   |none=>match bound hi len len with
    |none=>none
    |some h=>match bound lo h 0 with
     |none=>none
     |some l=>match Nat.beq len l with
      |true=>some<|.slice (some (n,o)) (h - l)<|.known<|len - l
      |false=>some<|.slice (some (n,o+l*k)) (h - l)<|.known<|len - l
 |_,_=>none
def room:Nat:=140737488355328
def makeSlice(P:Program)(t:TypeId)(len cap:AV):M AV:=
 match P.underlying t with
 |some (.slice e)=>
  aA (intOf len) fun l=>aA (intOf cap) fun c=>aA (P.info? e) fun i=>aA (within c room) fun c=>aA (within l<|c+1) fun l=>aA (qj P e) fun z=>
  aF (and (Nat.ble (c*i.bytes) room)<|and (Nat.ble (c*i.size) top)<|and (or (Nat.beq (c*i.size) 0)<|not<|Nat.beq z.cells.length 0)<|z.cells.all AV.bR) <|
  (gC<|.cells (c*i.size) .nil z.cells).bind fun r=>M.pure<|.slice (some (r,0)) l<|.known c
 |_=>fail
def firstCells(size n:Nat):AV->M (List AV)
 | .slice (some _) 0 .lost=>aF (Nat.beq n 0) <| M.pure []
 | .slice (some (m,o)) _ _=>jc m o<|n*size
 | .slice none _ _=>M.pure []
 |_=>fail
def lenOf:AV->Option Nat
 | .slice _ n _=>some n
 |_=>none
def grown(size bytes mW:Nat)(dy new:List AV):M AV:=
 aF (and (Nat.ble (2*mW*bytes+4096*bytes) room)<|not<|Nat.beq bytes 0) <|
 (newRow<|dy++new).bind fun r=>M.pure<|.slice (some (r,0)) mW<|.aq mW size
def wK(n off:Nat)(l:List AV):M Unit:=
  match l with
  |[]=>M.pure ()
  | x ::r=>(bu n).bind fun o=>match o with
    | .cells m t z=>aF (and (Nat.ble off m)<|and (Nat.ble (max m<|off+(r.length+1)) top)<|(x::r).all AV.bR) <|
      bK n (some<|.cells (max m<|off+(r.length+1)) (Tr.fill (x::r) off t) z)
    |_=>fail
def ae.yP:ae->Bool
 | .cells _ _ _=>true
 |_=>false
def sK(i:TypeInfo):Bool:=
 match i.zero with
 |none=>false
 |some v=>Nat.beq v.cells.size i.size
def qX(size bytes:Nat)(base:Option<|Nat×Nat)(len:Nat)(cap:bZ)(n:Nat)(new:List AV):M AV:=
 match cap with
 | .known c=>match Nat.ble (len+n) c with
  |true=>(match base with
   |some (m,o)=>qW m (o+len*size) new
   |none=>M.pure ()).bind fun _=>M.pure (.slice base (len+n)<|.known c)
  |false=>(firstCells size len<|.slice base len<|.known c).bind fun dy=>grown size bytes (len+n) dy new
 | .aq lo sz=>aF (Nat.beq sz size) <| match Nat.ble (len+n) lo with
  |true=>match base with
   |some (m,o)=>(wK m (o+len*size) new).bind fun _=>M.pure<|.slice (some (m,o)) (len+n)<|.aq lo sz
   |none=>fail
  |false=>match base with
   |some (m,0)=>(jc m 0<|len*size).bind fun dy=>(bu m).bind fun o=>aF o.yP <| (bK m none).bind fun _=>grown size bytes (len+n) dy new
   |_=>fail
 | .lost=>fail
def pt(P:Program)(t:Option TypeId):Bool:=
 match t with
 |none=>true
 |some t=>match P.underlying t with
  |some (.int _)=>false
  |some _=>true
  |none=>false
def pq(P:Program)(argTypes:Array TypeId)(s x:AV):M AV:=
 aA argTypes[0]? fun t=>match P.underlying t,s with
 |some (.slice e),.slice base len cap=>
  aA (P.info? e) fun i=>aF (and (sK i)<|pt P argTypes[1]?) <| aA (lenOf x) fun n=>(firstCells i.size n x).bind fun new=>
  aF (Nat.beq new.length<|n*i.size) <| qX i.size i.bytes base len cap n new
 |_,_=>fail
def acW:AV->Bool
 | .slice _ _ .lost=>false
 |_=>true
def yW(P:Program)(argTypes:Array TypeId)(d x:AV):M AV:=
 aA argTypes[0]? fun t=>match P.underlying t,d with
 |some (.slice e),.slice base len cap=>
  aA (eD P e) fun k=>aA (lenOf x) fun m=>aF (acW<|.slice base len cap) <| (firstCells k (Nat.min m len) x).bind fun cells=>
  (match base with
  |some (r,o)=>qW r o cells
  |none=>M.pure ()).bind fun _=>M.pure (.int .i64 (Nat.min m len:Nat))
 |_,_=>fail
def eqFields(P:Program)(eq:TypeId->AV->AV->Option Bool)(xs ys:List AV):List Field->Option Bool
 |[]=>some true
 |f::l=>match f.name == "_" with
  |true=>eqFields P eq xs ys l
  |false=>match vq P f.type xs f.offset,vq P f.type ys f.offset with
   |some a,some b=>match eq f.type a b with
    |none=>none
    |some false=>some false
    |some true=>eqFields P eq xs ys l
   |_,_=>none
def PF(n len:Nat):Option Bool:=match len with
 |0=>match Nat.beq n top with
  |true=>some true
  |false=>match Nat.beq n (top+1) with
   |true=>some false
   |false=>none
 |_+1=>some false
def pQ(P:Program):Nat->TypeId->AV->AV->Option Bool
 |0,_,_,_=>none
 |d+1,t,x,y=>
  match P.underlying t,x,y with
  |some .bool,.bool a,.bool b=>some<|a == b
  |some (.int _),.int k a,.int k' b=>match decide (k=k') with
   |true=>some<|a == b
   |false=>none
  |some (.pointer _),.ptr none,.ptr b=>some b.isNone
  |some (.pointer _),.ptr (some _),.ptr none=>some false
  |some (.struct fs),.agg xs,.agg ys=>match P.stoodInHeld t with
   |true=>none
   |false=>eqFields P (pQ P d) xs ys fs.toList
  |some (.slice _),.slice none _ _,.slice b _ _=>some b.isNone
  |some (.slice _),.slice (some _) _ _,.slice none _ _=>some false
  |some (.slice _),.U n _ len,.slice none _ _=>PF n len
  |_,_,_=>none
def isConst:Operand->Bool
 | .const _=>true
 |_=>false
def Mq(P:Program)(t:TypeId)(x y:Operand)(a b:AV):Bool:=
 match a,b with
 | .nilIface,.nilIface=>isConst x||isConst y
 | .agg _,.agg _=> !P.eqGuardType P.depth t
 |_,_=>true
def Dn(op:BinOp)(k:IntKind)(a b:Int):Option AV:=
 match op with
 | .add=>some<|.int k<|k.wrap<|a+b
 | .sub=>some<|.int k<|k.wrap<|a - b
 | .mul=>some<|.int k<|k.wrap<|a*b
 | .quo=>match decide (b=0) with
  |true=>none
  |false=>some<|.int k<|k.wrap<|a.tdiv b
 | .rem=>match decide (b=0) with
  |true=>none
  |false=>some<|.int k<|a.tmod b
 | .and=>some<|.int k<|k.wrap (BitVec.ofInt k.bits a&&& BitVec.ofInt k.bits b).toNat
 | .or=>some<|.int k<|k.wrap (BitVec.ofInt k.bits a|||BitVec.ofInt k.bits b).toNat
 | .xor=>some<|.int k<|k.wrap (BitVec.ofInt k.bits a ^^^ BitVec.ofInt k.bits b).toNat
 | .andNot=>some<|.int k<|k.wrap (BitVec.ofInt k.bits a&&& ~~~BitVec.ofInt k.bits b).toNat
 | .eql=>some<|.bool<|a == b
 | .neq=>some<|.bool<|a != b
 | .lss=>some<|.bool<|a<b
 | .leq=>some<|.bool<|a<=b
 | .gtr=>some<|.bool<|a>b
 | .geq=>some<|.bool<|a>=b
 |_=>none
def NH(op:BinOp)(k:IntKind)(x y:Int):Option AV:=
 match decide (y<0) with
 |true=>none
 |false=>match op with
  | .shl=>some<|.int k<|k.wrap<|x*2 ^ min y.toNat k.bits
  | .shr=>some<|.int k<|x.fdiv<|2 ^ min y.toNat k.bits
  |_=>none
def yQ:BinOp->Bool
 | .shl| .shr=>true
 |_=>false
def AZ(P:Program)(op:BinOp)(t:TypeId)(x y:AV):Option AV:=
 match x,y with
 | .int k a,.int k' b=>match yQ op with
  |true=>NH op k a b
  |false=>match decide (k=k') with
   |true=>Dn op k a b
   |false=>none
 |x,y=>match op with
  | .eql=>match pQ P Op.maxDepth t x y with
   |none=>none
   |some b=>some<|.bool b
  | .neq=>match pQ P Op.maxDepth t x y with
   |none=>none
   |some b=>some<|.bool !b
  |_=>none
def Wb(op:UnOp)(x:AV):Option AV:=
 match op,x with
 | .not,.bool b=>some<|.bool !b
 |_,_=>none
def M4(P:Program)(src dst:TypeId)(x:AV):Option AV:=
 match P.underlying src,P.underlying dst,x with
 |some _,some (.int k),.int _ n=>some<|.int k<|k.wrap n
 |_,_,_=>none
def plainKey(P:Program)(t:TypeId)(key:AV):Bool:=
 match P.underlying t,key with
 |some (.int _),.int _ _=>true
 |some .string,.str _=>true
 |some .bool,.bool _=>true
 |_,_=>false
def kR(key:AV):List (AV×AV)->Nat->Option (Option<|Nat×AV)
 |[],_=>some none
 |(k,v)::l,i=>match sameKey key k with
  |none=>none
  |some true=>some<|some (i,v)
  |some false=>kR key l<|i+1
def Fg(P:Program)(t:TypeId)(key:AV):List (AV×AV)->Nat->Option (Option<|Nat×AV)
 |[],_=>some none
 |(k,v)::l,i=>match pQ P Op.maxDepth t key k with
  |none=>none
  |some true=>some<|some (i,v)
  |some false=>Fg P t key l<|i+1
def ug:AV->Bool
 | .J9 _=>false
 |_=>true
def findKey(P:Program)(t:TypeId)(key:AV)(es:List<|AV×AV):Option<|Option<|Nat×AV:=
 match ug key with
 |false=>none
 |true=>match plainKey P t key with
  |true=>kR key es 0
  |false=>Fg P t key es 0
def EV(P:Program)(BP:TypeId->AV->Bool)(cs:List AV):List Field->Bool
 |[]=>true
 |f::l=>match f.name == "_" with
  |true=>EV P BP cs l
  |false=>match vq P f.type cs f.offset with
   |none=>false
   |some a=>match BP f.type a with
    |true=>EV P BP cs l
    |false=>false
def ox(P:Program):Nat->TypeId->AV->Bool
 |0,_,_=>false
 |d+1,t,x=>match P.underlying t,x with
  |some .bool,_=>true
  |some (.int _),_=>true
  |some .string,_=>true
  |some (.struct fs),.agg cs=>EV P (ox P d) cs fs.toList
  |_,_=>false
def Vo(r:Nat):M<|List<|AV×AV:=do
 match ←bu r with
 | .map es _=>pure es
 | .lv es=>pure es
 |_=>fail
def short:List (AV×AV)->Bool
 |[]=>true
 |[_]=>true
 |_=>false
def yX(P:Program)(k:TypeId)(key x:AV):M<|List<|AV×AV:=
 match x with
 | .map none=>M.pure []
 | .map (some r)=>(bu r).bind fun o=>match o with
  | .map es _=>M.pure es
  | .lv es=>aF (or (plainKey P k key)<|short es) <| M.pure es
  |_=>fail
 |_=>fail
def zP(ok:Bool)(v:AV)(b:Bool):AV:=
 match ok with
 |true=>.tuple [v,.bool b]
 |false=>v
def yR(P:Program)(t:TypeId)(x key:AV)(ok:Bool):M AV:=
 match P.underlying t with
 |some (.map k e)=>(yX P k key x).bind fun es=>aF (ox P 10000 k key) <| aA (findKey P k key es) fun f=>match f with
  |some q=>M.pure<|zP ok q.2 true
  |none=>aA (qj P e) fun z=>M.pure<|zP ok z false
 |_=>fail
def CP:List AV->List AV->Bool
 |[],[]=>true
 |x::xs,y::ys=>match sameKey x y with
  |some true=>CP xs ys
  |_=>false
 |_,_=>false
def sameBits:AV->AV->Bool
 | .agg xs,.agg ys=>CP xs ys
 |x,y=>match sameKey x y with
  |some true=>true
  |_=>false
def putAt:List (AV×AV)->Nat->AV->AV->List (AV×AV)
 |[],_,_,_=>[]
 |_::l,0,k,v=>(k,v)::l
 |x::l,i+1,k,v=>x::putAt l i k v
def Dp(r:Nat)(key val:AV)(es:List<|AV×AV)(bq:Nat)(f:Option<|Nat×AV):M Unit:=
 match f with
 |some q=>aA es[q.1]? fun dy=>aF (sameBits dy.1 key) <| bK r<|some<|.map (putAt es q.1 key val) bq
 |none=>bK r<|some<|.map (es++[(key,val)])<|bq+1
def Ax(r:Nat)(key val:AV)(es:List<|AV×AV)(f:Option<|Nat×AV):M Unit:=
 match f with
 |some q=>bK r<|some<|.lv<|putAt es q.1 key val
 |none=>bK r<|some<|.lv<|es++[(key,val)]
def xj(P:Program)(t:TypeId)(m key val:AV):M Unit:=
 match P.underlying t,m with
 |some (.map k _),.map (some r)=>(bu r).bind fun o=>match o with
  | .map es bq=>aF (ox P 10000 k key) <| aA (findKey P k key es) fun f=>Dp r key val es bq f
  | .lv es=>aF (and (plainKey P k key)<|ox P 10000 k key) <| aA (findKey P k key es) fun f=>Ax r key val es f
  |_=>fail
 |_,_=>fail
def zx(P:Program)(argTypes:Array TypeId)(x:AV):M AV:=do
 let t ←lift argTypes[0]?
 match P.underlying t,x with
 |some (.slice _),.slice _ n _=>pure<|.int .i64 n
 |some (.slice _),.U _ _ n=>pure<|.int .i64 n
 |_,_=>fail
def min2:AV->AV->Option AV
 | .int k x,.int _ y=>some<|.int k (match decide (y<x) with|true=>y|false=>x)
 |_,_=>none
def max2:AV->AV->Option AV
 | .int k x,.int _ y=>some<|.int k (match decide (y>x) with|true=>y|false=>x)
 |_,_=>none
def C1(f:AV->AV->Option AV):List AV->AV->Option AV
 |[],x=>some x
 |y::l,x=>match f x y with
  |none=>none
  |some z=>C1 f l z
def yM(P:Program)(b:Builtin)(argTypes:Array TypeId)(args:List AV):M AV:=
 match b,args with
 | .len,[x]=>zx P argTypes x
 | .append,[s,x]=>pq P argTypes s x
 | .copy,[d,x]=>yW P argTypes d x
 | .min,x::l=>lift<|C1 min2 l x
 | .max,x::l=>lift<|C1 max2 l x
 |_,_=>fail
inductive GN where
 |fn (f:FuncId)
 |round (l:Nat)
 |row (n o k:Nat)
def mX(YR:GN->List AV->M AV)(f:AV)(args:List AV):M AV:=
 match f with
 | .func (.func g) first captured=>YR (.fn g)<|first++args++captured
 | .yield l=>YR (.round l) args
 |_=>fail
abbrev aJ:=GN->List AV->M AV
abbrev gF:=aJ->Tr AV->M AV
inductive qI (α:Type) where
 |mk (a:α)
def vu(x:Operand):gF:=fun _ t=>lift<|aG t x
def Bk(c a b:Operand):gF:=fun _ t=>
 aA (aG t c) fun c=>aA (xg c) fun c=>aA (aG t a) fun a=>aA (aG t b) fun b=>
  match c with
  |true=>M.pure a
  |false=>M.pure b
def Jb(P:Program)(e:TypeId):gF:=fun _ _=>aA (qj P e) fun z=>(newRow z.cells).bind fun r=>M.pure<|.ptr<|some (r,0)
def Bs(x:Operand):gF:=fun _ t=>aA (aG t x) fun v=>(newRow v.cells).bind fun r=>M.pure<|.ptr<|some (r,0)
def A0(P:Program)(ty:TypeId)(parts:List<|Nat×Operand):gF:=fun _ t=>aA (vt (aG t) parts) fun ps=>lift<|build P ty ps
def An(P:Program)(ty:TypeId)(len:Nat)(parts:List<|Nat×Operand):gF:=fun _ t=>aA (vt (aG t) parts) fun ps=>buildSlice P ty len ps
def wW(P:Program)(ty:TypeId)(n o:Nat):M AV:=
 aA (qx P ty) fun ag=>match ag with
  |true=>fail
  |false=>(bu n).bind fun ob=>match ob with
   | .tz m t=>aF (Nat.blt o m) <| lift<|t.get o
   |_=>fail
def uY(P:Program)(ty:TypeId)(YR:aJ)(n o:Nat):M AV:=
 aA (qx P ty) fun ag=>aA (eD P ty) fun k=>(YR (.row n o (match ag with|true=>k|false=>1)) []).bind fun v=>match v with
  | .agg l=>match ag with
   |true=>M.pure<|.agg l
   |false=>lift<|one l
  |_=>fail
def loadAt(P:Program)(ty:TypeId)(YR:aJ)(a:AV):M AV:=
 match a with
 | .pG n o=>match Nat.ble top n with
  |true=>uY P ty YR n o
  |false=>wW P ty n o
 |a=>aA (addrOf a) fun a=>loadVar P ty a.1 a.2
def tA(P:Program)(ty:TypeId)(a:Operand):gF:=fun YR t=>aA (aG t a) fun a=>loadAt P ty YR a
def xk(P:Program)(ty:TypeId)(a x:Operand):gF:=fun _ t=>aA (aG t a) fun a=>aA (addrOf a) fun a=>aA (aG t x) fun v=>(storeVar P ty a.1 a.2 v).bind fun _=>M.pure qf
def notNil:AV->Bool
 | .ptr none| .nilIface| .nilFunc=>false
 | .func (.func _) _ _=>true
 | .func _ _ _=>false
 |_=>true
def Aq(x:Operand):gF:=fun _ t=>aA (aG t x) fun v=>aF (notNil v) <| M.pure v
def IE(P:Program)(op:BinOp)(t:TypeId)(x y:Operand)(a b:AV):Bool:=
 match op with
 | .eql| .neq=>Mq P t x y a b
 |_=>true
def tM(P:Program)(op:BinOp)(ty:TypeId)(x y:Operand):gF:=fun _ t=>aA (aG t x) fun a=>aA (aG t y) fun b=>aF (IE P op ty x y a b) <| lift<|AZ P op ty a b
def BQ(op:UnOp)(x:Operand):gF:=fun _ t=>aA (aG t x) fun a=>lift<|Wb op a
def Ay(P:Program)(src dst:TypeId)(x:Operand):gF:=fun _ t=>
 aA (aG t x) fun a=>match a with
  | .slice _ _ _=>fail
  |a=>lift<|M4 P src dst a
def Cs(P:Program)(ty:TypeId)(x:Operand):gF:=fun _ _=>fail
def WJ:Fn->Bool
 | .func _=>true
 |_=>false
def Ar(fn:Fn)(first captured:List Operand):gF:=fun _ t=>aF (WJ fn) <| aA (jU (aG t) first) fun f=>aA (jU (aG t) captured) fun c=>M.pure<|.func fn f c
def JK(P:Program)(t:TypeId):Bool:=
 match P.underlying t with
 |some (.map _ _)=>true
 |_=>false
def Az(P:Program)(ty:TypeId)(r:Option Operand):gF:=fun _ t=>
 (match r with
 |none=>M.pure ()
 |some x=>aA (aG t x) fun v=>aA (intOf v) fun _=>pH<|JK P ty).bind fun _=>
 (gC<|.map [] 0).bind fun n=>M.pure<|.map<|some n
def Ao(P:Program)(ty:TypeId)(l c:Operand):gF:=fun _ t=>aA (aG t l) fun l=>aA (aG t c) fun c=>makeSlice P ty l c
def sX(P:Program)(ty:TypeId)(x:Operand)(lo hi mx:Option Operand):gF:=fun _ t=>aA (aG t x) fun x=>aA (opt (aG t) lo) fun lo=>aA (opt (aG t) hi) fun hi=>aA (opt (aG t) mx) fun mx=>lift<|wV P ty x lo hi mx
def Ap(P:Program)(s:TypeId)(x:Operand)(f:Nat):gF:=fun _ t=>aA (aG t x) fun x=>lift<|fieldAddr P s x f
def A3(P:Program)(s:TypeId)(x:Operand)(f:Nat):gF:=fun _ t=>aA (aG t x) fun x=>lift<|Us P s x f
def p9(P:Program)(ty:TypeId)(x i:Operand):gF:=fun _ t=>aA (aG t x) fun x=>aA (aG t i) fun i=>lift<|indexAddr P ty x i
def A4(P:Program)(ty:TypeId)(x i:Operand):gF:=fun _ t=>aA (aG t x) fun x=>aA (aG t i) fun i=>lift<|indexOf P ty x i
def wX(P:Program)(ty:TypeId)(x i:Operand)(ok:Bool):gF:=fun _ t=>aA (aG t x) fun x=>aA (aG t i) fun i=>yR P ty x i ok
def qd(P:Program)(ty:TypeId)(m k x:Operand):gF:=fun _ t=>aA (aG t m) fun m=>aA (aG t k) fun k=>aA (aG t x) fun x=>(xj P ty m k x).bind fun _=>M.pure qf
def CQ(P:Program)(asserted:TypeId)(ok:Bool)(x:Operand):gF:=fun _ _=>fail
def AJ(P:Program)(ty:TypeId)(x:AV):M AV:=
 match P.underlying ty,x with
 |some (.map _ _),.map (some m)=>(bu m).bind fun o=>match o with
  | .map es _=>(bK m<|some .iy).bind fun _=>(gC<|.iter m es true es none).bind fun n=>M.pure<|.ptr<|some (n,0)
  | .lv es=>(bK m<|some .iy).bind fun _=>(gC<|.iter m es false es none).bind fun n=>M.pure<|.ptr<|some (n,0)
  |_=>fail
 |_,_=>fail
def A5(P:Program)(ty:TypeId)(x:Operand):gF:=fun _ t=>aA (aG t x) fun x=>AJ P ty x
def acX(x:AV):M AV:=
 match x with
 | .ptr (some (n,0))=>(bu n).bind fun o=>match o with
  | .Ft b pos=>match Nat.blt pos b.size with
   |true=>(bK n<|some<|.Ft b<|pos+(Utf8.decode b pos).2).bind fun _=>M.pure<|.tuple [.bool true,.int .i64 pos,.int .i32 (Utf8.decode b pos).1]
   |false=>M.pure<|.tuple [.bool false]
  |_=>fail
 |_=>fail
def CE(x:Operand):gF:=fun _ _=>fail
def CR(x:AV):M AV:=
 match x with
 | .ptr (some (n,0))=>(bu n).bind fun o=>match o with
  | .iter _ _ _ _ (some (k,v))=>M.pure<|.tuple [k,v]
  |_=>fail
 |_=>fail
def A6(x:Operand):gF:=fun _ t=>aA (aG t x) fun x=>CR x
def partOf(x:AV)(i:Nat):Option AV:=
 match x with
 | .tuple l=>l[i]?
 |_=>none
def AA(x:Operand)(i:Nat):gF:=fun _ t=>aA (aG t x) fun x=>lift<|partOf x i
def sL(YR:aJ)(n o k:Nat):M<|List AV:=match k with
 |0=>M.pure []
 |k=>(YR (.row n o k) []).bind fun x=>match x with
  | .agg l=>aF (Nat.beq l.length k) <| M.pure l
  |_=>fail
def O0(size len:Nat)(cap:bZ):Bool:=
 match cap with
 | .known c=>and (Nat.beq c 0)<|Nat.beq len 0
 | .aq _ sz=>Nat.beq sz size
 | .lost=>false
def AK(P:Program)(YR:aJ)(argTypes:Array TypeId)(s:AV)(n o k:Nat):M AV:=
 aF (Nat.ble top n) <| aA argTypes[0]? fun t=>match P.underlying t,s with
 |some (.slice e),.slice (some (m,0)) len cap=>
  aA (P.info? e) fun i=>aF (and (sK i)<|pt P argTypes[1]?) <| aF (O0 i.size len cap) <|
  (sL YR n o<|k*i.size).bind fun new=>(jc m 0<|len*i.size).bind fun dy=>(bu m).bind fun ob=>aF ob.yP <| (bK m none).bind fun _=>grown i.size i.bytes (len+k) dy new
 |_,_=>fail
def oi(P:Program)(b:Builtin)(argTypes:Array TypeId)(args:List Operand):gF:=fun YR t=>
 aA (jU (aG t) args) fun args=>match b,args with
 | .append,[s,.U n o k]=>AK P YR argTypes s n o k
 |b,args=>yM P b argTypes args
def tB(f:Operand)(args:List Operand):gF:=fun YR t=>aA (jU (aG t) args) fun args=>aA (aG t f) fun f=>mX YR f args
def NI(P:Program)(recv:Operand)(name:String)(args:List Operand):gF:=fun _ _=>fail
def Wc:gF:=fun _ _=>fail
def dI(P:Program)(op:Op):qI gF:=
 match op with
 | .move x=>.mk<|vu x
 | .assign x=>.mk<|vu x
 | .pick c a b=>.mk<|Bk c a b
 | .alloc e=>.mk<|Jb P e
 | .box _ x=>.mk<|Bs x
 | .build t parts=>.mk<|A0 P t parts.toList
 | .buildSlice t len parts=>.mk<|An P t len parts.toList
 | .load t a=>.mk<|tA P t a
 | .store t a x=>.mk<|xk P t a x
 | .nilCheck x=>.mk<|Aq x
 | .binOp op t x y _=>.mk<|tM P op t x y
 | .unOp op _ x=>.mk<|BQ op x
 | .convert src dst x=>.mk<|Ay P src dst x
 | .makeInterface t x=>.mk<|Cs P t x
 | .makeFunc fn first captured=>.mk<|Ar fn first.toList captured.toList
 | .makeMap t r=>.mk<|Az P t r
 | .makeSlice t l c=>.mk<|Ao P t l c
 | .slice t x lo hi mx=>.mk<|sX P t x lo hi mx
 | .fieldAddr s x f=>.mk<|Ap P s x f
 | .field s x f=>.mk<|A3 P s x f
 | .indexAddr t x i=>.mk<|p9 P t x i
 | .index t x i=>.mk<|A4 P t x i
 | .lookup t x i ok=>.mk<|wX P t x i ok
 | .mapUpdate t m k x=>.mk<|qd P t m k x
 | .insert t m k x=>.mk<|qd P t m k x
 | .typeAssert x _ asserted ok=>.mk<|CQ P asserted ok x
 | .range t x=>.mk<|A5 P t x
 | .entry x=>.mk<|A6 x
 | .next x true=>.mk<|CE x
 | .extract x i=>.mk<|AA x i
 | .call ⟨.builtin b,args,argTypes⟩=>.mk<|oi P b argTypes args.toList
 | .call ⟨.value f,args,_⟩=>.mk<|tB f args.toList
 | .call ⟨.invoke recv name,args,_⟩=>.mk<|NI P recv name args.toList
 |_=>.mk Wc
def qI.val{α:Type}(b:qI α):α:= @qI.rec α (fun _=>α) (fun a=>a) b
def GO(P:Program)(YR:aJ)(t:Tr AV)(op:Op):M AV:=(dI P op).val YR t
end
end Go.Rn
namespace Go.Rn
variable {α:Type}
noncomputable section
structure AF where
 fn:FuncId
 tmps:Tr AV
 nt:Nat
 todo:List Item
 defers:List Nat
 round:Option Nat
def ji(nt:Nat)(t:Tr AV)(dst:Option Tmp)(v:AV):Option<|Tr AV:= @Option.rec Tmp (fun _=>Option<|Tr AV) (some t) (fun d=> @Bool.rec (fun _=>Option<|Tr AV) none (some<|t.put d<|some v)<|Nat.blt d nt) dst
def Fh(ops:Array Oper)(t:Tr AV)(j:Nat):Option Bool:=
 match ops[j]? with
 |none=>none
 |some o=>match o.dst with
  |none=>none
  |some d=>match t.get d with
   |some (.bool b)=>some b
   |_=>none
def qe(ops:Array Oper)(g:Nat×Bool)(t:Tr AV):Bool:=
 match Fh ops t g.1 with
 |some b=>b == g.2
 |none=>false
def sY(ops:Array Oper)(t:Tr AV)(j:Nat):Bool:=
 match ops[j]? with
 |none=>true
 |some o=>match o.dst with
  |none=>true
  |some d=>(t.get d).isSome
abbrev O1:=aJ->Nat->Tr AV->M (Tr AV)
def rS(f:qI gF)(dst:Option Tmp):O1:=fun YR nt t=>(f.val YR t).bind fun v=>lift<|ji nt t dst v
def tC(ops:Array Oper)(g:Nat×Bool)(f:qI gF)(dst:Option Tmp):O1:=fun YR nt t=>aF (sY ops t g.1) <| @Bool.rec (fun _=>M<|Tr AV) (lift<|ji nt t dst qf) ((f.val YR t).bind fun v=>lift<|ji nt t dst v)<|qe ops g t
def Bl(P:Program)(ops:Array Oper)(o:Oper):qI O1:=
 match o.guard with
 |none=>.mk<|rS (dI P o.op) o.dst
 |some g=>.mk<|tC ops g (dI P o.op) o.dst
def gO(P:Program)(YR:aJ)(nt:Nat)(ops:Array Oper)(o:Oper)(t:Tr AV):M<|Tr AV:=(Bl P ops o).val YR nt t
def jj(P:Program)(YR:aJ)(nt:Nat)(ops:Array Oper)(l:List Oper):Tr AV->M (Tr AV):= @List.rec Oper (fun _=>Tr AV->M (Tr AV)) (fun t=>M.pure t) (fun o _ ih t=>(gO P YR nt ops o t).bind ih) l
structure Met where
 i:Nat
 rd:List Nat
 wr:List Nat
 lo:Nat
 hi:Nat
def uT(m:Nat)(l:List Nat):List Nat:= @List.rec Nat (fun _=>List Nat) [] (fun x _ ih=> @Bool.rec (fun _=>List Nat) ih (List.cons x ih) (Nat.ble m x |> not)) l
def below(m:Nat)(l:List Nat):List Nat:= @Bool.rec (fun _=>List Nat) (uT m l) []<|Nat.beq m 0
def alone(i:Nat)(m:M α):M<|α×Met:=fun s=>
 @AS.rec (fun _=>R<|α×Met) (fun h nx mark rd wr=>forced nx fun lo=>
  @R.rec α (fun _=>R<|α×Met) .bad (fun a s1=>
   @AS.rec (fun _=>R<|α×Met) (fun h1 pR _ gq nW=>forced pR fun hi=>.ok (a,⟨i,below lo gq,below lo nW,lo,hi⟩) ⟨h1,hi,mark,below mark gq++rd,below mark nW++wr⟩) s1)
   (m ⟨h,lo,lo,[],[]⟩)) s
def mY(P:Program)(YR:aJ)(nt:Nat)(ops:Array Oper):List Oper->Nat->Tr AV->M (Tr AV×List Met)
 |[],_,t=>M.pure (t,[])
 |o::l,i,t=>(alone i<|gO P YR nt ops o t).bind fun x=>(mY P YR nt ops l (i+1) x.1).bind fun y=>M.pure (y.1,x.2::y.2)
def Bt(n:Nat):List Nat->Bool
 |[]=>false
 |x::l=>match Nat.beq x n with
  |true=>true
  |false=>Bt n l
def meets:List Nat->List Nat->Bool
 |[],_=>false
 |x::l,m=>match Bt x m with
  |true=>true
  |false=>meets l m
def zh(lo hi:Nat):List Nat->Bool
 |[]=>false
 |x::l=>match Nat.ble lo x&&Nat.blt x hi with
  |true=>true
  |false=>zh lo hi l
def s8(x y:Met):Bool:= !(meets x.wr y.rd)&&(!(zh x.lo x.hi y.rd))
def td(x:Met):Bool:=match x.wr with
 |[]=>Nat.ble x.hi x.lo
 |_=>false
def sC(b:Array Nat)(x:Met):List Met->Bool
 |[]=>true
 |y::l=>match Nat.beq x.i y.i||(s8 x y|| !loose b x.i y.i) with
  |true=>sC b x l
  |false=>false
def qk(b:Array Nat)(all:List Met):List Met->Bool
 |[]=>true
 |x::l=>match td x||sC b x all with
  |true=>qk b all l
  |false=>false
def qc(P:Program)(YR:aJ)(nt:Nat)(ops:Array Oper)(t:Tr AV):M<|Tr AV:=(mY P YR nt ops ops.toList 0 t).bind fun x=>aF (qk (Region.before ops) x.2 x.2) <| M.pure x.1
inductive br where
 |go (fr:AF)
 |leave (fr:AF) (jump:Option Code)
def getLoop(l:Nat):M ae:=(bu l).bind fun o=>match o with
 | .loop a b c d e f g h i=>M.pure<|.loop a b c d e f g h i
 |_=>fail
abbrev oy:=aJ->FuncId->Tr AV->Nat->List Nat->Option Nat->List Item->M br
def qy:oy:=fun _ fn t nt d r k=>M.pure<|.go ⟨fn,t,nt,k,d,r⟩
def nF(l:List Item):oy:=fun _ fn t nt d r k=>M.pure<|.go ⟨fn,t,nt,l++k,d,r⟩
def JL(c:Operand)(a b:Code):oy:=fun _ fn t nt d r k=>aA (aG t c) fun v=>aA (xg v) fun v=>M.pure<|.go ⟨fn,t,nt,.code (@Bool.rec (fun _=>Code) b a v)::k,d,r⟩
def Dq(id:Nat):oy:=fun _ fn t nt d r k=>match exitTo id k with
 |some k'=>M.pure<|.go ⟨fn,t,nt,k',d,r⟩
 |none=>M.pure<|.leave ⟨fn,t,nt,.code (.exit id)::k,d,r⟩<|some<|.exit id
def Dr(l:Nat):oy:=fun _ fn t nt d r k=>match gotoIn l k with
 |some k'=>M.pure<|.go ⟨fn,t,nt,k',d,r⟩
 |none=>M.pure<|.leave ⟨fn,t,nt,.code (.goto l)::k,d,r⟩<|some<|.goto l
def WK:oy:=fun _ fn t nt d r k=>M.pure<|.leave ⟨fn,t,nt,.code .ret::k,d,r⟩<|some .ret
def IF(P:Program)(ops:Array Oper):oy:=fun YR fn t nt d r k=>(jj P YR nt ops ops.toList t).bind fun t=>M.pure<|.go ⟨fn,t,nt,k,d,r⟩
def Ia(P:Program)(ops:Array Oper):oy:=fun YR fn t nt d r k=>(qc P YR nt ops t).bind fun t=>M.pure<|.go ⟨fn,t,nt,k,d,r⟩
def acY:LoopState->Bool
 | .busy=>false
 |_=>true
def lQ(l:Nat):M<|Option Code:=(getLoop l).bind fun o=>match o with
 | .loop st bN fn t nt ps a b dd=>aF (acY st) <| (bK l<|some<|.loop .exhausted bN fn t nt ps a b dd).bind fun _=>M.pure bN
 |_=>fail
def andThen(p:Option Code)(k:List Item):List Item:=
 match p with
 |none=>k
 |some c=>.code c::k
def uZ(f:Operand)(params:List Tmp)(assign body:Code):oy:=fun YR fn t nt d r k=>
 match r with
 |none=>
  (gC .defs).bind fun df=>(gC<|.loop .ready none fn t nt params assign body df).bind fun l=>
  aA (aG t f) fun g=>(mX YR g [.yield l]).bind fun _=>(lQ l).bind fun p=>
  M.pure (.go ⟨fn,t,nt,andThen p k,df::d,r⟩)
 |some l0=>(getLoop l0).bind fun o=>match o with
  | .loop _ _ _ _ _ _ _ _ df=>
   (gC<|.loop .ready none fn t nt params assign body df).bind fun l=>
   aA (aG t f) fun g=>(mX YR g [.yield l]).bind fun _=>(lQ l).bind fun p=>
   M.pure (.go ⟨fn,t,nt,andThen p k,d,r⟩)
  |_=>fail
def yY:oy:=fun _ fn t nt d r k=>
 match r with
 |none=>fail
 |some l=>(getLoop l).bind fun o=>match o with
  | .loop .ready bN fn1 t1 nt1 ps a b df=>(bK l<|some<|.loop .busy bN fn1 t1 nt1 ps a b df).bind fun _=>M.pure<|.go ⟨fn,t,nt,k,d,r⟩
  |_=>fail
def O2:oy:=fun _ _ _ _ _ _ _=>fail
def Wd(P:Program)(c:Code):qI oy:=
 match c with
 | .skip=>.mk qy
 | .label _=>.mk qy
 | .seq a b=>.mk<|nF [.code a,.code b]
 | .cond c a b=>.mk<|JL c a b
 | .block id b=>.mk<|nF [.code b,.inBlock id]
 | .loop b=>.mk<|nF [.code b,.inLoop b]
 | .scope b=>.mk<|nF [.code b,.inScope b]
 | .exit id=>.mk<|Dq id
 | .goto l=>.mk<|Dr l
 | .ret=>.mk WK
 | .region _ ops false=>.mk<|IF P ops
 | .region _ ops true=>.mk<|Ia P ops
 | .rangeFunc f params a b=>.mk<|uZ f params.toList a b
 | .refuse _=>.mk O2
def vw(P:Program)(it:Item):qI oy:=
 match it with
 | .code c=>Wd P c
 | .inBlock _=>.mk qy
 | .inScope _=>.mk qy
 | .inLoop b=>.mk<|nF [.code b,.inLoop b]
 | .beginRound=>.mk yY
 |_=>.mk O2
def je(P:Program)(YR:aJ)(fr:AF):M br:= @AF.rec (fun _=>M br) (fun fn t nt todo d r=> @List.rec Item (fun _=>M br) (M.pure<|.leave ⟨fn,t,nt,[],d,r⟩ none) (fun it k _=>(vw P it).val YR fn t nt d r k) todo) fr
def nG(P:Program)(YR:aJ)(n:Nat):AF->M br:= @Nat.rec (fun _=>AF->M br) (je P YR) (fun _ ih fr=>(ih fr).bind fun x=> @br.rec (fun _=>M br) ih (fun fr j=>M.pure<|.leave fr j) x) n
def ql(P:Program)(YR:aJ)(n:Nat):Nat->AF->M br:= @Nat.rec (fun _=>Nat->AF->M br) (fun _ _=>fail) (fun _ ih k fr=>(nG P YR k fr).bind fun x=> @br.rec (fun _=>M br) (fun fr=>ih (Nat.succ k) fr) (fun fr j=>M.pure<|.leave fr j) x) n
def AB(P:Program)(t:Tr AV):ResultVar->M AV
  | .tmp i=>lift<|t.get i
  | .cell a ty=>do
    let a ←lift (match t.get a with
      |some x=>addrOf x
      |none=>none)
    loadVar P ty a.1 a.2
def sI(P:Program)(t:Tr AV):List ResultVar->M (List AV)
  |[]=>pure []
  | r::l=>do
    let v ←AB P t r
    let vs ←sI P t l
    pure (v::vs)
def qZ:List Nat->M Unit
  |[]=>pure ()
  | d ::l=>do
    match ←bu d with
    | .defs=>do
      bK d none
      qZ l
    |_=>fail
def dc(l:List AV):Tr AV:=Tr.fill l 0 .nil
def jz:List Tmp->List AV->Tr AV->Tr AV
 |p::ps,v::vs,t=>jz ps vs<|t.put p<|some v
 |_,_,t=>t
def AD(fr:AF):Option<|Operand×Oper×Array Oper×List Oper×List Item:=
 match fr.todo with
 | .code (.region _ ops false)::k=>match ops.toList with
  |o::rest=>match o.guard,o.op with
   |none,.next it false=>some (it,o,ops,rest,k)
   |_,_=>none
  |[]=>none
 |_=>none
def xF:List α->List (α×List α)
 |[]=>[]
 |x::l=>(x,l)::(xF l).map fun(y,r)=>(y,x::r)
def mapOf(exact:Bool)(es:List<|AV×AV):ae:=
 match exact with
 |true=>.map es es.length
 |false=>.lv es
def nB(P:Program)(YR:aJ)(fr:AF)(n:Nat)(ob:ae)(o:Oper)(ops:Array Oper)(rest:List Oper)(k:List Item)(v:AV):M AF:=do
 bK n (some ob)
 let t ←lift (ji fr.nt fr.tmps o.dst v);let t ←jj P YR fr.nt ops rest t
 pure {fr with tmps:=t,todo:=k}
def nz(P:Program)(YR:aJ)(fr:AF)(n m:Nat)(es:List<|AV×AV)(exact:Bool)(o:Oper)(ops:Array Oper)(rest:List Oper)(k:List Item):M AF:=do
 bK n none
 bK m (some<|mapOf exact es)
 let t ←lift (ji fr.nt fr.tmps o.dst<|.tuple [.bool false]);let t ←jj P YR fr.nt ops rest t
 pure {fr with tmps:=t,todo:=k}
def ri(fr:AF)(it:Operand):M<|Nat×ae:=do
  match ←lift (aG fr.tmps it) with
  | .ptr (some (n,0))=>do
    let o ←bu n
    pure (n,o)
  |_=>fail
def finish(P:Program)(rs:List ResultVar)(fr:AF)(j:Option Code):M AV:=do
 pH (match j with|none|some .ret=>true|_=>false)
 qZ fr.defers
 let vs ←sI P fr.tmps rs
 match vs with
 |[v]=>pure v
 |_=>pure<|.tuple vs
def depth:Nat:=24
def nC(P:Program)(YR:aJ):Nat->AF->M br
 |0,_=>fail
 |f+1,fr=>match AD fr with
  |some (it,o,ops,rest,k)=>(ri fr it).bind fun x=>match x with
   |(n,.iter m es ex [] _)=>(nz P YR fr n m es ex o ops rest k).bind fun fr=>nC P YR f fr
   |(n,.iter m es ex [y] _)=>(nB P YR fr n (.iter m es ex []<|some y) o ops rest k<|.tuple [.bool true,y.1,y.2]).bind fun fr=>nC P YR f fr
   |_=>fail
  |none=>(je P YR fr).bind fun x=>match x with
   | .go fr=>nC P YR f fr
   | .leave fr j=>M.pure<|.leave fr j
def zy(P:Program)(YR:aJ)(w:Nat)(fr:AF):M br:=match Nat.beq w 1 with
 |true=>nC P YR 100000 fr
 |false=>ql P YR depth 2 fr
def Ds(P:Program)(w f ntmps:Nat)(rs:List ResultVar)(body:Code)(YR:aJ)(args:List AV):M AV:=
 aF (Nat.ble (max ntmps args.length) top) <|
 (zy P YR w ⟨f,dc args,max ntmps args.length,[.code body],[],none⟩).bind fun st=> @br.rec (fun _=>M AV) (fun _=>fail) (fun fr j=>finish P rs fr j) st
def GP(P:Program)(j9:FuncId->Nat)(f:FuncId):qI<|aJ->List AV->M AV:=
 match P.funcs[f]? with
 |none=>.mk fun _ _=>fail
 |some fn=>match fn.body with
  |none=>.mk fun _ _=>fail
  |some body=>match fn.name == "runtime.NumGoroutine" with
   |true=>.mk fun _ _=>fail
   |false=>.mk<|Ds P (j9 f) f fn.ntmps fn.results.toList body
def endRound(l:Nat)(j:Option Code):M AV:=(getLoop l).bind fun o=>match o with
 | .loop _ _ fn t nt ps a b d=>(bK l<|some<|.loop (match j with|none=>.ready|some _=>.done) j fn t nt ps a b d).bind fun _=>M.pure<|.bool j.isNone
 |_=>fail
def AE(P:Program)(YR:aJ)(l:Nat)(args:List AV):M AV:=(getLoop l).bind fun o=>match o with
 | .loop _ _ fn t nt ps a b _=>
  aF (and (Nat.beq args.length ps.length)<|ps.all fun p=>Nat.blt p nt) <|
  (ql P YR depth 2 ⟨fn,jz ps args t,nt,[.code a,.beginRound,.code b],[],some l⟩).bind fun st=> @br.rec (fun _=>M AV) (fun _=>fail) (fun _ j=>endRound l j) st
 |_=>fail
def zA(P:Program)(j9:FuncId->Nat)(n:Nat):aJ:= @Nat.rec (fun _=>aJ) (fun _ _=>fail) (fun _ ih t args=> @GN.rec (fun _=>M AV) (fun f=>(GP P j9 f).val ih args) (fun l=>AE P ih l args) (fun _ _ _=>fail) t) n
end
end Go.Rn
namespace Go.Rn
variable {s s1:AS} {α β:Type} {n:Nat} {f:α->M β} {o:ae} {b:β} {a:α}
structure O3 (A:Nat->Prop) (m0:Nat) (s t:AS):Prop where
 nx:s.nx=t.nx
 mark:s.mark=t.mark
 low:m0<=s.mark
 is:∀k,k<s.nx->(A k\/m0<=k)->s.h.get k=t.h.get k
structure bC (s:AS):Prop where
 mark:s.mark<=s.nx
 nx:s.nx<=top
structure KP (s s1:AS) (dr dw:List Nat):Prop where
 rd:s1.rd=dr++s.rd
 wr:s1.wr=dw++s.wr
 nx:s.nx<=s1.nx
 top:s1.nx<=top
 mark:s1.mark=s.mark
 same:∀k,k<s.mark->k ∉ dw->s1.h.get k=s.h.get k
 sub:∀k∈dw,k∈dr
 rT:∀k,s1.nx<=k->k<Rn.top->s1.h.get k=s.h.get k
theorem KP.cn{dr dw:List Nat}(f:bC s)(d:KP s s1 dr dw):bC s1:=⟨by rw[d.mark];exact Nat.le_trans f.mark d.nx,d.top⟩
structure WL (A:Nat->Prop) (m0:Nat) (s1 t t1:AS) (dr dw:List Nat):Prop where
 agree:O3 A m0 s1 t1
 rd:t1.rd=dr++t.rd
 wr:t1.wr=dw++t.wr
 same:∀k,k<m0->k ∉ dw->t1.h.get k=t.h.get k
 rT:∀k,s1.nx<=k->k<Rn.top->t1.h.get k=t.h.get k
def YQ(m:M α):Prop:=∀s v s1,bC s->m s= .ok v s1->∃dr dw,KP s s1 dr dw/\∀A m0 t,O3 A m0 s t->(∀k∈dr,k<m0->A k)->∃t1,m t= .ok v t1/\WL A m0 s1 t t1 dr dw
theorem M.bL{m:M α}(h:m s= .ok a s1):(m.bind f) s=f a s1:=by unfold M.bind;rw[h]
theorem M.abG{m:M α}(h:m s= .bad):(m.bind f) s= .bad:=by unfold M.bind;rw[h]
theorem M.aN{m:M α}{s2:AS}(h:(m.bind f) s= .ok b s2):∃a s1,m s= .ok a s1/\f a s1= .ok b s2:=by
 cases e:m s with
 |bad=>rw[M.abG e] at h;cases h
 |ok a s1=>rw[M.bL e] at h;exact⟨a,s1,rfl,h⟩
theorem bind_eq(m:M α)(f:α->M β):(m >>= f)=m.bind f:=rfl
theorem acZ(a:α):(pure a:M α)=M.pure a:=rfl
theorem bV(a:α)(f:α->M β):aA (some a) f=f a:=rfl
theorem dA(m:M β):aF true m=m:=rfl
theorem bw{o:Option α}(h:aA o f s= .ok b s1):∃a,o=some a/\f a s= .ok b s1:=by
 cases o with
 |none=>cases h
 |some a=>exact⟨a,rfl,h⟩
theorem cX{c:Bool}{m:M β}(h:aF c m s= .ok b s1):c=true/\m s= .ok b s1:=by
 cases c with
 |false=>cases h
 |true=>exact⟨rfl,h⟩
theorem bB{b:α}(h:M.pure a s= .ok b s1):b=a/\s1=s:=by cases h;exact⟨rfl,rfl⟩
theorem gS{o:Option α}{b:α}(h:lift o s= .ok b s1):o=some b/\s1=s:=by
 cases o with
 |none=>cases h
 |some a=>cases h;exact⟨rfl,rfl⟩
theorem YQ.pure(a:α):YQ<|M.pure a:=by intro s v s1 fi h;obtain⟨rfl,rfl⟩:=bB h;exact⟨[],[],⟨rfl,rfl,Nat.le_refl _,fi.nx,rfl,fun _ _ _=>rfl,fun _ h=>h,fun _ _ _=>rfl⟩,fun A m0 t ag _=>⟨t,rfl,ag,rfl,rfl,fun _ _ _=>rfl,fun _ _ _=>rfl⟩⟩
theorem YQ.fail{α:Type}:YQ (fail:M α):=by intro s v s1 _ h;cases h
theorem YQ.aA{α β:Type}{o:Option α}{f:α->M β}(h:∀a,o=some a->YQ (f a)):YQ<|aA o f:=by
 cases o with
 |none=>exact YQ.fail
 |some a=>exact h a rfl
theorem YQ.aF{β:Type}{c:Bool}{m:M β}(h:c=true->YQ m):YQ<|aF c m:=by
 cases c with
 |false=>exact YQ.fail
 |true=>exact h rfl
theorem YQ.lift{α:Type}(o:Option α):YQ<|lift o:=by
 cases o with
 |none=>exact YQ.fail
 |some a=>exact YQ.pure a
theorem YQ.pH(b:Bool):YQ<|pH b:=by
 cases b with
 |false=>exact YQ.fail
 |true=>exact YQ.pure ()
theorem YQ.bind{m:M α}(hm:YQ m)(hf:∀a,YQ<|f a):YQ<|m.bind f:=by
 intro s v s2 fi h;obtain⟨a,s1,h1,h2⟩:=M.aN h;obtain⟨dr,dw,d,x⟩:=hm s a s1 fi h1;obtain⟨dr',Qf,d',x'⟩:=hf a s1 v s2 (d.cn fi) h2;refine⟨dr'++dr,Qf++dw,⟨by rw[d'.rd,d.rd,List.append_assoc],by rw[d'.wr,d.wr,List.append_assoc],Nat.le_trans d.nx d'.nx,d'.top,d'.mark.trans d.mark,?_,?_,?_⟩,?_⟩
 ·intro k hk hn;have BR:k ∉ Qf:=fun e=>hn<|List.mem_append.2<|.inl e;have uh:k ∉ dw:=fun e=>hn<|List.mem_append.2<|.inr e;exact(d'.same k (by rw[d.mark];exact hk) BR).trans<|d.same k hk uh
 ·intro k hk;rcases List.mem_append.1 hk with e|e
  ·exact List.mem_append.2<|.inl<|d'.sub k e
  ·exact List.mem_append.2<|.inr<|d.sub k e
 ·intro k hk ht;exact(d'.rT k hk ht).trans<|d.rT k (Nat.le_trans d'.nx hk) ht
 ·intro A m0 t ag hA;obtain⟨t1,e1,al⟩:=x A m0 t ag fun k hk cf=>hA k (List.mem_append.2<|.inr hk) cf;obtain⟨t2,e2,GQ⟩:=x' A m0 t1 al.agree fun k hk cf=>hA k (List.mem_append.2<|.inl hk) cf;refine⟨t2,by rw[M.bL e1];exact e2,GQ.agree,by rw[GQ.rd,al.rd,List.append_assoc],by rw[GQ.wr,al.wr,List.append_assoc],?_,?_⟩
  ·intro k hk hn;have BR:k ∉ Qf:=fun e=>hn<|List.mem_append.2<|.inl e;have uh:k ∉ dw:=fun e=>hn<|List.mem_append.2<|.inr e;exact(GQ.same k hk BR).trans<|al.same k hk uh
  ·intro k hk ht;exact(GQ.rT k hk ht).trans<|al.rT k (Nat.le_trans d'.nx hk) ht
theorem blt_eq(n m:Nat):(Nat.blt n m=true)=(n<m):=by show(Nat.ble (n+1) m=true)=_;rw[Nat.ble_eq];rfl
theorem yS(a b:α)(n m:Nat): @Bool.rec (fun _=>α) a b (Nat.blt n m)=if n<m then b else a:=by
 rw[MZ];by_cases h:n<m
 ·rw[if_pos h,if_pos (by rw[blt_eq];exact h)]
 ·rw[if_neg h,if_neg (by rw[blt_eq];exact h)]
theorem NJ(h:bu n s= .ok o s1):
 n<s.nx/\s.h.get n=some o/\s1=if n<s.mark then{s with rd:=n::s.rd} else s:=by
 obtain⟨hh,nx,mark,rd,wr⟩:=s;cases hb:Nat.blt n nx with
 |false=>
  have:bu n ⟨hh,nx,mark,rd,wr⟩= .bad:=by show @Bool.rec (fun _=>R ae) .bad _ (Nat.blt n nx)=_;rw[hb]
  rw[this] at h;cases h
 |true=>
  cases hg:hh.get n with
  |none=>
   have:bu n ⟨hh,nx,mark,rd,wr⟩= .bad:=by show @Bool.rec (fun _=>R ae) .bad (@Option.rec ae (fun _=>R ae) .bad _<|hh.get n) (Nat.blt n nx)=_;rw[hb,hg]
   rw[this] at h;cases h
  |some o'=>
   have:bu n ⟨hh,nx,mark,rd,wr⟩= @Bool.rec (fun _=>R ae) (.ok o' ⟨hh,nx,mark,rd,wr⟩) (.ok o' ⟨hh,nx,mark,n::rd,wr⟩) (Nat.blt n mark):=by show @Bool.rec (fun _=>R ae) .bad (@Option.rec ae (fun _=>R ae) .bad _<|hh.get n) (Nat.blt n nx)=_;rw[hb,hg]
   rw[this] at h;have cf:n<nx:=by rw[←blt_eq];exact hb
   cases hm:Nat.blt n mark with
   |false=>
    rw[hm] at h;cases h;have:¬n<mark:=by rw[←blt_eq,hm];simp
    exact⟨cf,by first|exact hg|rfl,by simp[this]⟩
   |true=>
    rw[hm] at h;cases h;have:n<mark:=by rw[←blt_eq];exact hm
    exact⟨cf,by first|exact hg|rfl,by simp[this]⟩
theorem Vp(h1:n<s.nx)(h2:s.h.get n=some o):
 bu n s= .ok o (if n<s.mark then{s with rd:=n::s.rd} else s):=by
 obtain⟨hh,nx,mark,rd,wr⟩:=s;have hb:Nat.blt n nx=true:=by rw[blt_eq];exact h1
 have hg:hh.get n=some o:=h2;show @Bool.rec (fun _=>R ae) .bad (@Option.rec ae (fun _=>R ae) .bad (fun o=> @Bool.rec (fun _=>R ae) (.ok o ⟨hh,nx,mark,rd,wr⟩) (.ok o ⟨hh,nx,mark,n::rd,wr⟩)<|Nat.blt n mark)<|hh.get n) (Nat.blt n nx)=_;rw[hb,hg];show @Bool.rec (fun _=>R ae) _ _ (Nat.blt n mark)=_;rw[yS];by_cases e:n<mark<;>simp[e]
theorem Ut{o:Option ae}{u:Unit}(h:bK n o s= .ok u s1):
 n<s.nx/\n<top/\(∃p,s.h.get n=some p/\p.dk=false)/\s1=if n<s.mark then{s with h:=s.h.put n o,rd:=n::s.rd,wr:=n::s.wr} else{s with h:=s.h.put n o}:=by
 obtain⟨hh,nx,mark,rd,wr⟩:=s;have e:bK n o ⟨hh,nx,mark,rd,wr⟩= @Bool.rec (fun _=>R Unit) .bad
  (@Option.rec ae (fun _=>R Unit) .bad
   (fun p=> @Bool.rec (fun _=>R Unit)
    (@Bool.rec (fun _=>R Unit) (.ok () ⟨hh.put n o,nx,mark,rd,wr⟩) (.ok () ⟨hh.put n o,nx,mark,n::rd,n::wr⟩)<|Nat.blt n mark)
    .bad p.dk)
   (hh.get n))
  (and (Nat.blt n nx)<|Nat.blt n top):=rfl
 rw[e] at h;cases hb:and (Nat.blt n nx) (Nat.blt n top) with
 |false=>rw[hb] at h;cases h
 |true=>
  rw[hb] at h;have fm:=Bool.and_eq_true_iff.1 hb;rw[blt_eq,blt_eq] at fm;cases hg:hh.get n with
  |none=>rw[hg] at h;cases h
  |some p=>
   rw[hg] at h;cases hr:p.dk with
   |true=>
    have h': @Bool.rec (fun _=>R Unit)
     (@Bool.rec (fun _=>R Unit) (.ok () ⟨hh.put n o,nx,mark,rd,wr⟩) (.ok () ⟨hh.put n o,nx,mark,n::rd,n::wr⟩)<|Nat.blt n mark)
     .bad p.dk= .ok u s1:=h
    rw[hr] at h';cases h'
   |false=>
    have h': @Bool.rec (fun _=>R Unit)
     (@Bool.rec (fun _=>R Unit) (.ok () ⟨hh.put n o,nx,mark,rd,wr⟩) (.ok () ⟨hh.put n o,nx,mark,n::rd,n::wr⟩)<|Nat.blt n mark)
     .bad p.dk= .ok u s1:=h
    rw[hr] at h';refine⟨fm.1,fm.2,⟨p,by first|exact hg|rfl,hr⟩,?_⟩;have ui: @Bool.rec (fun _=>R Unit) (.ok () ⟨hh.put n o,nx,mark,rd,wr⟩) (.ok () ⟨hh.put n o,nx,mark,n::rd,n::wr⟩) (Nat.blt n mark)= .ok u s1:=h';rw[yS] at ui;by_cases e:n<mark
    ·rw[if_pos e] at ui;injection ui with _ h3;simp[e, ←h3]
    ·rw[if_neg e] at ui;injection ui with _ h3;simp[e, ←h3]
theorem Oi{o:Option ae}{p:ae}(h1:n<s.nx)(h2:n<top)(h3:s.h.get n=some p)(h4:p.dk=false):
 bK n o s= .ok () (if n<s.mark then{s with h:=s.h.put n o,rd:=n::s.rd,wr:=n::s.wr} else{s with h:=s.h.put n o}):=by
 obtain⟨hh,nx,mark,rd,wr⟩:=s;have e:bK n o ⟨hh,nx,mark,rd,wr⟩= @Bool.rec (fun _=>R Unit) .bad
  (@Option.rec ae (fun _=>R Unit) .bad
   (fun p=> @Bool.rec (fun _=>R Unit)
    (@Bool.rec (fun _=>R Unit) (.ok () ⟨hh.put n o,nx,mark,rd,wr⟩) (.ok () ⟨hh.put n o,nx,mark,n::rd,n::wr⟩)<|Nat.blt n mark)
    .bad p.dk)
   (hh.get n))
  (and (Nat.blt n nx)<|Nat.blt n top):=rfl
 have hb:and (Nat.blt n nx) (Nat.blt n top)=true:=Bool.and_eq_true_iff.2 ⟨by rw[blt_eq];exact h1,by rw[blt_eq];exact h2⟩;have hg:hh.get n=some p:=h3;rw[e,hb,hg];show @Bool.rec (fun _=>R Unit) (@Bool.rec (fun _=>R Unit) (.ok () ⟨hh.put n o,nx,mark,rd,wr⟩) (.ok () ⟨hh.put n o,nx,mark,n::rd,n::wr⟩)<|Nat.blt n mark) .bad p.dk=_;rw[h4];show @Bool.rec (fun _=>R Unit) (.ok () ⟨hh.put n o,nx,mark,rd,wr⟩) (.ok () ⟨hh.put n o,nx,mark,n::rd,n::wr⟩) (Nat.blt n mark)=_;rw[yS];by_cases e:n<mark<;>simp[e]
theorem uP(h:gC o s= .ok n s1):s.nx<top/\n=s.nx/\s1={s with h:=s.h.put s.nx<|some o,nx:=s.nx+1}:=by
 obtain⟨hh,nx,mark,rd,wr⟩:=s;have e:gC o ⟨hh,nx,mark,rd,wr⟩= @Bool.rec (fun _=>R Nat) .bad (forced nx fun m=>.ok m ⟨hh.put m<|some o,m+1,mark,rd,wr⟩) (Nat.blt nx top):=rfl;rw[e,yL] at h;cases hb:Nat.blt nx top with
 |false=>rw[hb] at h;cases h
 |true=>rw[hb] at h;cases h;exact⟨by rw[←blt_eq];exact hb,rfl,rfl⟩
theorem Uu(h:s.nx<top):gC o s= .ok s.nx {s with h:=s.h.put s.nx<|some o,nx:=s.nx+1}:=by
 obtain⟨hh,nx,mark,rd,wr⟩:=s;have e:gC o ⟨hh,nx,mark,rd,wr⟩= @Bool.rec (fun _=>R Nat) .bad (forced nx fun m=>.ok m ⟨hh.put m<|some o,m+1,mark,rd,wr⟩) (Nat.blt nx top):=rfl;have hb:Nat.blt nx top=true:=by rw[blt_eq];exact h
 rw[e,yL,hb]
theorem YQ.bu(n:Nat):YQ<|bu n:=by
 intro s v s1 fi h;obtain⟨h1,h2,rfl⟩:=NJ h;by_cases e:n<s.mark
 ·rw[if_pos e];refine⟨[n],[],⟨rfl,rfl,Nat.le_refl _,fi.nx,rfl,fun _ _ _=>rfl,fun _ h=>(by cases h),fun _ _ _=>rfl⟩,fun A m0 t ag hA=>?_⟩;have hq:A n\/m0<=n:=by
   by_cases q:n<m0
   ·exact .inl<|hA n jI q
   ·exact .inr aj
  have hg:=ag.is n h1 hq;have hr:=Vp (o:=v) (s:=t) (n:=n) D9 Ea;rw[←ag.mark,if_pos e] at hr;exact⟨_,hr,⟨ag.nx,by first|exact ag.mark|rfl,ag.low,ag.is⟩,rfl,rfl,fun _ _ _=>rfl,fun _ _ _=>rfl⟩
 ·rw[if_neg e];refine⟨[],[],⟨rfl,rfl,Nat.le_refl _,fi.nx,rfl,fun _ _ _=>rfl,fun _ h=>(by cases h),fun _ _ _=>rfl⟩,fun A m0 t ag hA=>?_⟩;have hg:=ag.is n h1<|.inr<|Nat.le_trans ag.low aj;have hr:=Vp (o:=v) (s:=t) (n:=n) D9 Ea;rw[←ag.mark,if_neg e] at hr;exact⟨_,hr,ag,rfl,rfl,fun _ _ _=>rfl,fun _ _ _=>rfl⟩
theorem YQ.bK(n:Nat)(o:Option ae):YQ<|bK n o:=by
 intro s v s1 fi h;obtain⟨h1,ht,⟨p,h2,h3⟩,rfl⟩:=Ut h;by_cases e:n<s.mark
 ·rw[if_pos e];refine⟨[n],[n],⟨rfl,rfl,Nat.le_refl _,fi.nx,rfl,fun k hk hn=>?_,fun _ h=>h,fun k hk gu=>?_⟩,fun A m0 t ag hA=>?_⟩
  ·show(s.h.put n o).get k=_;rw[Tr.di _ _ _ _ ht (by have:=fi.mark;have:=fi.nx;omega),if_neg<|by simpa using hn]
  ·show(s.h.put n o).get k=_;have:s.nx<=k:=hk;rw[Tr.di _ _ _ _ ht gu,if_neg aj]
  ·have hq:A n\/m0<=n:=by
    by_cases q:n<m0
    ·exact .inl<|hA n jI q
    ·exact .inr aj
   have hg:=ag.is n h1 hq;have hr:=Oi (o:=o) (s:=t) (n:=n) (p:=p) D9 ht Ea h3;rw[←ag.mark,if_pos e] at hr;refine⟨_,hr,⟨ag.nx,by first|exact ag.mark|rfl,ag.low,fun k hk hq=>?_⟩,rfl,rfl,fun k hk hn=>?_,fun k hk gu=>?_⟩
   ·show(s.h.put n o).get k=(t.h.put n o).get k;have Eb:k<s.nx:=hk;have:=fi.nx;rw[Tr.di _ _ _ _ ht aj,Tr.di _ _ _ _ ht aj];by_cases q:k=n
    ·simp[q]
    ·rw[if_neg q,if_neg q];exact ag.is k hk hq
   ·show(t.h.put n o).get k=_;have:=fi.mark;have:=fi.nx;have:=ag.low;rw[Tr.di _ _ _ _ ht aj,if_neg<|by simpa using hn]
   ·show(t.h.put n o).get k=_;have:s.nx<=k:=hk;rw[Tr.di _ _ _ _ ht gu,if_neg aj]
 ·rw[if_neg e];refine⟨[],[],⟨rfl,rfl,Nat.le_refl _,fi.nx,rfl,fun k hk hn=>?_,fun _ h=>h,fun k hk gu=>?_⟩,fun A m0 t ag hA=>?_⟩
  ·show(s.h.put n o).get k=_;have:=fi.mark;have:=fi.nx;rw[Tr.di _ _ _ _ ht aj,if_neg aj]
  ·show(s.h.put n o).get k=_;have:s.nx<=k:=hk;rw[Tr.di _ _ _ _ ht gu,if_neg aj]
  ·have hg:=ag.is n h1<|.inr<|Nat.le_trans ag.low aj;have hr:=Oi (o:=o) (s:=t) (n:=n) (p:=p) D9 ht Ea h3;rw[←ag.mark,if_neg e] at hr;refine⟨_,hr,⟨ag.nx,by first|exact ag.mark|rfl,ag.low,fun k hk hq=>?_⟩,rfl,rfl,fun k hk hn=>?_,fun k hk gu=>?_⟩
   ·show(s.h.put n o).get k=(t.h.put n o).get k;have Eb:k<s.nx:=hk;have:=fi.nx;rw[Tr.di _ _ _ _ ht aj,Tr.di _ _ _ _ ht aj];by_cases q:k=n
    ·simp[q]
    ·rw[if_neg q,if_neg q];exact ag.is k hk hq
   ·show(t.h.put n o).get k=_;have:=fi.mark;have:=fi.nx;have:=ag.low;rw[Tr.di _ _ _ _ ht aj,if_neg aj]
   ·show(t.h.put n o).get k=_;have:s.nx<=k:=hk;rw[Tr.di _ _ _ _ ht gu,if_neg aj]
theorem YQ.gC(o:ae):YQ<|gC o:=by
 intro s v s1 fi h;obtain⟨ht,rfl,rfl⟩:=uP h;refine⟨[],[],⟨rfl,rfl,Nat.le_succ _,ht,rfl,fun k hk hn=>?_,fun _ h=>h,fun k hk gu=>?_⟩,fun A m0 t ag hA=>?_⟩
 ·show(s.h.put s.nx<|some o).get k=_;have:=fi.mark;have:=fi.nx;rw[Tr.di _ _ _ _ ht aj,if_neg aj]
 ·show(s.h.put s.nx<|some o).get k=_;have:s.nx+1<=k:=hk;rw[Tr.di _ _ _ _ ht gu,if_neg aj]
 ·have hr:=Uu (o:=o) (s:=t) (by rw[←ag.nx];exact ht);rw[←ag.nx] at hr;refine⟨_,hr,⟨rfl,ag.mark,ag.low,fun k hk hq=>?_⟩,rfl,rfl,fun k hk hn=>?_,fun k hk gu=>?_⟩
  ·show(s.h.put s.nx<|some o).get k=(t.h.put s.nx<|some o).get k;have Eb:k<s.nx+1:=hk;rw[Tr.di _ _ _ _ ht aj,Tr.di _ _ _ _ ht aj];by_cases q:k=s.nx
   ·simp[q]
   ·rw[if_neg q,if_neg q];exact ag.is k aj hq
  ·show(t.h.put s.nx<|some o).get k=_;have:=fi.mark;have:=fi.nx;have:=ag.low;rw[Tr.di _ _ _ _ ht aj,if_neg aj]
  ·show(t.h.put s.nx<|some o).get k=_;have:s.nx+1<=k:=hk;rw[Tr.di _ _ _ _ ht gu,if_neg aj]
end Go.Rn
namespace Go.Rn
theorem YQ.jc(n off k:Nat):YQ<|jc n off k:=by
 cases k with
 |zero=>exact YQ.pure _
 |succ k=>
  unfold Rn.jc
  repeat' (first
  |exact YQ.pure _|exact YQ.fail|exact YQ.lift _|exact YQ.bu _
  |refine YQ.aA (fun _ _=>?_)|refine YQ.aF (fun _=>?_)|refine YQ.bind ?_ (fun _=>?_)
  |split)
theorem YQ.qW(n off:Nat)(l:List AV):YQ<|qW n off l:=by
 unfold Rn.qW
 repeat' (first
  |exact YQ.pure _|exact YQ.fail|exact YQ.bu _|exact YQ.bK _ _
  |exact YQ.fail
  |refine YQ.aA (fun _ _=>?_)|refine YQ.aF (fun _=>?_)|refine YQ.bind ?_ (fun _=>?_)
  |split)
theorem YQ.newRow(l:List AV):YQ<|newRow l:=by
 unfold Rn.newRow
 repeat' (first
  |exact YQ.pure _|exact YQ.fail|exact YQ.gC _
  |exact YQ.fail
  |refine YQ.aA (fun _ _=>?_)|refine YQ.aF (fun _=>?_)|refine YQ.bind ?_ (fun _=>?_)
  |split)
theorem YQ.loadVar(P:Program)(t:TypeId)(n off:Nat):YQ<|loadVar P t n off:=by
 unfold Rn.loadVar
 repeat' (first
  |exact YQ.pure _|exact YQ.fail|exact YQ.lift _
  |exact YQ.fail|exact YQ.jc _ _ _
  |refine YQ.aA (fun _ _=>?_)|refine YQ.aF (fun _=>?_)|refine YQ.bind ?_ (fun _=>?_)
  |split)
theorem YQ.wW(P:Program)(t:TypeId)(n off:Nat):YQ<|wW P t n off:=by
 unfold Rn.wW
 repeat' (first
  |exact YQ.pure _|exact YQ.fail|exact YQ.lift _|exact YQ.bu _
  |exact YQ.fail
  |refine YQ.aA (fun _ _=>?_)|refine YQ.aF (fun _=>?_)|refine YQ.bind ?_ (fun _=>?_)
  |split)
theorem YQ.uY(P:Program)(t:TypeId){YR:aJ}(bH:∀t a,YQ<|YR t a)(n o:Nat):YQ<|uY P t YR n o:=by
 unfold Rn.uY
 repeat' (first
  |exact YQ.pure _|exact YQ.fail|exact YQ.lift _
  |exact bH _ _
  |refine YQ.aA (fun _ _=>?_)|refine YQ.aF (fun _=>?_)|refine YQ.bind ?_ (fun _=>?_)
  |split)
theorem YQ.loadAt(P:Program)(t:TypeId){YR:aJ}(bH:∀t a,YQ<|YR t a)(a:AV):YQ<|loadAt P t YR a:=by
 unfold Rn.loadAt
 repeat' (first
  |exact YQ.pure _|exact YQ.fail
  |exact bH _ _|exact YQ.loadVar _ _ _ _|exact YQ.wW _ _ _ _|exact YQ.uY _ _ bH _ _
  |refine YQ.aA (fun _ _=>?_)|refine YQ.aF (fun _=>?_)|refine YQ.bind ?_ (fun _=>?_)
  |split)
theorem YQ.storeVar(P:Program)(t:TypeId)(n off:Nat)(v:AV):YQ<|storeVar P t n off v:=by
 unfold Rn.storeVar
 repeat' (first
  |exact YQ.pure _|exact YQ.fail
  |exact YQ.fail|exact YQ.qW _ _ _
  |refine YQ.aA (fun _ _=>?_)|refine YQ.aF (fun _=>?_)|refine YQ.bind ?_ (fun _=>?_)
  |split)
theorem YQ.buildSlice(P:Program)(t:TypeId)(len:Nat)(parts:List<|Nat×AV):YQ<|buildSlice P t len parts:=by
 unfold Rn.buildSlice
 repeat' (first
  |exact YQ.pure _|exact YQ.fail|exact YQ.lift _|exact YQ.pH _
  |exact YQ.fail|exact YQ.newRow _
  |refine YQ.aA (fun _ _=>?_)|refine YQ.aF (fun _=>?_)|refine YQ.bind ?_ (fun _=>?_)
  |split)
theorem YQ.makeSlice(P:Program)(t:TypeId)(len cap:AV):YQ<|makeSlice P t len cap:=by
 unfold Rn.makeSlice
 repeat' (first
  |exact YQ.pure _|exact YQ.fail|exact YQ.gC _
  |exact YQ.fail
  |refine YQ.aA (fun _ _=>?_)|refine YQ.aF (fun _=>?_)|refine YQ.bind ?_ (fun _=>?_)
  |split)
theorem YQ.firstCells(size n:Nat)(v:AV):YQ<|firstCells size n v:=by
 unfold Rn.firstCells
 repeat' (first
  |exact YQ.pure _|exact YQ.fail
  |exact YQ.fail|exact YQ.jc _ _ _
  |refine YQ.aA (fun _ _=>?_)|refine YQ.aF (fun _=>?_)|refine YQ.bind ?_ (fun _=>?_)
  |split)
theorem YQ.grown(a b c:Nat)(l m:List AV):YQ<|grown a b c l m:=by
 unfold Rn.grown
 repeat' (first
  |exact YQ.pure _|exact YQ.fail
  |exact YQ.fail|exact YQ.newRow _
  |refine YQ.aA (fun _ _=>?_)|refine YQ.aF (fun _=>?_)|refine YQ.bind ?_ (fun _=>?_)
  |split)
theorem YQ.wK(n off:Nat)(l:List AV):YQ<|wK n off l:=by
 unfold Rn.wK
 repeat' (first
  |exact YQ.pure _|exact YQ.fail|exact YQ.bu _|exact YQ.bK _ _
  |exact YQ.fail
  |refine YQ.aA (fun _ _=>?_)|refine YQ.aF (fun _=>?_)|refine YQ.bind ?_ (fun _=>?_)
  |split)
theorem YQ.qX(size bytes:Nat)(base:Option<|Nat×Nat)(len:Nat)(cap:bZ)(n:Nat)(new:List AV):YQ<|qX size bytes base len cap n new:=by
 unfold Rn.qX
 repeat' (first
  |exact YQ.pure _|exact YQ.fail|exact YQ.bu _|exact YQ.bK _ _
  |exact YQ.fail|exact YQ.jc _ _ _|exact YQ.qW _ _ _|exact YQ.firstCells _ _ _|exact YQ.grown _ _ _ _ _|exact YQ.wK _ _ _
  |refine YQ.aA (fun _ _=>?_)|refine YQ.aF (fun _=>?_)|refine YQ.bind ?_ (fun _=>?_)
  |split)
theorem YQ.pq(P:Program)(ts:Array TypeId)(s x:AV):YQ<|pq P ts s x:=by
 unfold Rn.pq
 repeat' (first
  |exact YQ.pure _|exact YQ.fail
  |exact YQ.fail|exact YQ.firstCells _ _ _|exact YQ.qX _ _ _ _ _ _ _
  |refine YQ.aA (fun _ _=>?_)|refine YQ.aF (fun _=>?_)|refine YQ.bind ?_ (fun _=>?_)
  |split)
theorem YQ.yW(P:Program)(ts:Array TypeId)(s x:AV):YQ<|yW P ts s x:=by
 unfold Rn.yW
 repeat' (first
  |exact YQ.pure _|exact YQ.fail
  |exact YQ.fail|exact YQ.qW _ _ _|exact YQ.firstCells _ _ _
  |refine YQ.aA (fun _ _=>?_)|refine YQ.aF (fun _=>?_)|refine YQ.bind ?_ (fun _=>?_)
  |split)
theorem YQ.yX(P:Program)(k:TypeId)(a x:AV):YQ<|yX P k a x:=by
 unfold Rn.yX
 repeat' (first
  |exact YQ.pure _|exact YQ.fail|exact YQ.bu _
  |exact YQ.fail
  |refine YQ.aA (fun _ _=>?_)|refine YQ.aF (fun _=>?_)|refine YQ.bind ?_ (fun _=>?_)
  |split)
theorem YQ.Dp(r:Nat)(a b:AV)(l:List<|AV×AV)(c:Nat)(f:Option<|Nat×AV):YQ<|Dp r a b l c f:=by
 unfold Rn.Dp
 repeat' (first
  |exact YQ.pure _|exact YQ.fail|exact YQ.bK _ _
  |exact YQ.fail
  |refine YQ.aA (fun _ _=>?_)|refine YQ.aF (fun _=>?_)|refine YQ.bind ?_ (fun _=>?_)
  |split)
theorem YQ.Ax(r:Nat)(a b:AV)(l:List<|AV×AV)(f:Option<|Nat×AV):YQ<|Ax r a b l f:=by
 unfold Rn.Ax
 repeat' (first
  |exact YQ.pure _|exact YQ.fail|exact YQ.bK _ _
  |exact YQ.fail
  |refine YQ.aA (fun _ _=>?_)|refine YQ.aF (fun _=>?_)|refine YQ.bind ?_ (fun _=>?_)
  |split)
theorem YQ.yR(P:Program)(t:TypeId)(x k:AV)(ok:Bool):YQ<|yR P t x k ok:=by
 unfold Rn.yR
 repeat' (first
  |exact YQ.pure _|exact YQ.fail
  |exact YQ.fail|exact YQ.yX _ _ _ _
  |refine YQ.aA (fun _ _=>?_)|refine YQ.aF (fun _=>?_)|refine YQ.bind ?_ (fun _=>?_)
  |split)
theorem YQ.xj(P:Program)(t:TypeId)(m k v:AV):YQ<|xj P t m k v:=by
 unfold Rn.xj
 repeat' (first
  |exact YQ.pure _|exact YQ.fail|exact YQ.bu _
  |exact YQ.fail|exact YQ.Dp _ _ _ _ _ _|exact YQ.Ax _ _ _ _ _
  |refine YQ.aA (fun _ _=>?_)|refine YQ.aF (fun _=>?_)|refine YQ.bind ?_ (fun _=>?_)
  |split)
theorem YQ.zx(P:Program)(ts:Array TypeId)(x:AV):YQ<|zx P ts x:=by
 unfold Rn.zx
 repeat' (first
  |exact YQ.pure _|exact YQ.fail|exact YQ.lift _
  |exact YQ.fail|exact YQ.Vo _
  |refine YQ.aA (fun _ _=>?_)|refine YQ.aF (fun _=>?_)|refine YQ.bind ?_ (fun _=>?_)
  |split)
theorem YQ.yM(P:Program)(b:Builtin)(ts:Array TypeId)(l:List AV):YQ<|yM P b ts l:=by
 unfold Rn.yM
 repeat' (first
  |exact YQ.pure _|exact YQ.fail|exact YQ.lift _
  |exact YQ.fail|exact YQ.pq _ _ _ _|exact YQ.yW _ _ _ _|exact YQ.zx _ _ _|exact YQ.aeB _ _ _
  |refine YQ.aA (fun _ _=>?_)|refine YQ.aF (fun _=>?_)|refine YQ.bind ?_ (fun _=>?_)
  |split)
theorem YQ.AJ(P:Program)(a:TypeId)(x:AV):YQ<|AJ P a x:=by
 unfold Rn.AJ
 repeat' (first
  |exact YQ.pure _|exact YQ.fail|exact YQ.bu _|exact YQ.bK _ _|exact YQ.gC _
  |exact YQ.fail
  |refine YQ.aA (fun _ _=>?_)|refine YQ.aF (fun _=>?_)|refine YQ.bind ?_ (fun _=>?_)
  |split)
theorem YQ.CR(x:AV):YQ<|CR x:=by
 unfold Rn.CR
 repeat' (first
  |exact YQ.pure _|exact YQ.fail|exact YQ.bu _
  |exact YQ.fail
  |refine YQ.aA (fun _ _=>?_)|refine YQ.aF (fun _=>?_)|refine YQ.bind ?_ (fun _=>?_)
  |split)
theorem YQ.sL{YR:aJ}(bH:∀t a,YQ<|YR t a)(n o k:Nat):YQ<|sL YR n o k:=by
 unfold Rn.sL
 repeat' (first
  |exact YQ.pure _|exact YQ.fail
  |exact bH _ _
  |refine YQ.aA (fun _ _=>?_)|refine YQ.aF (fun _=>?_)|refine YQ.bind ?_ (fun _=>?_)
  |split)
theorem YQ.mX{YR:aJ}(bH:∀t a,YQ<|YR t a)(f:AV)(l:List AV):YQ<|mX YR f l:=by
 unfold Rn.mX
 repeat' (first
  |exact YQ.pure _|exact YQ.fail
  |exact bH _ _
  |refine YQ.aA (fun _ _=>?_)|refine YQ.aF (fun _=>?_)|refine YQ.bind ?_ (fun _=>?_)
  |split)
theorem YQ.GO(P:Program){YR:aJ}(bH:∀t a,YQ<|YR t a)(t:Tr AV)(op:Op):YQ<|GO P YR t op:=by unfold Rn.GO Rn.dI;split<;>simp only[qI.val]<;>(first|unfold Rn.vu|unfold Rn.Bk|unfold Rn.Jb|unfold Rn.Bs|unfold Rn.A0|unfold Rn.An|unfold Rn.tA|unfold Rn.xk|unfold Rn.Aq|unfold Rn.tM|unfold Rn.BQ|unfold Rn.Ay|unfold Rn.Cs|unfold Rn.Ar|unfold Rn.Az|unfold Rn.Ao|unfold Rn.sX|unfold Rn.Ap|unfold Rn.A3|unfold Rn.p9|unfold Rn.A4|unfold Rn.wX|unfold Rn.qd|unfold Rn.CQ|unfold Rn.A5|unfold Rn.A6|unfold Rn.CE|unfold Rn.AA|unfold Rn.oi|unfold Rn.tB|unfold Rn.NI|unfold Rn.Wc)<;>(repeat' (first|exact YQ.pure _|exact YQ.fail|exact YQ.lift _|exact YQ.pH _|exact YQ.bu _|exact YQ.bK _ _|exact YQ.gC _|exact bH _ _|exact YQ.jc _ _ _|exact YQ.qW _ _ _|exact YQ.newRow _|exact YQ.loadVar _ _ _ _|exact YQ.wW _ _ _ _|exact YQ.loadAt _ _ bH _|exact YQ.storeVar _ _ _ _ _|exact YQ.buildSlice _ _ _ _|exact YQ.makeSlice _ _ _ _|exact YQ.firstCells _ _ _|exact YQ.grown _ _ _ _ _|exact YQ.wK _ _ _|exact YQ.qX _ _ _ _ _ _ _|exact YQ.pq _ _ _ _|exact YQ.yW _ _ _ _|exact YQ.Vo _|exact YQ.yX _ _ _ _|exact YQ.Dp _ _ _ _ _ _|exact YQ.Ax _ _ _ _ _|exact YQ.yR _ _ _ _ _|exact YQ.xj _ _ _ _ _|exact YQ.zx _ _ _|exact YQ.aeB _ _ _|exact YQ.yM _ _ _ _|exact YQ.toText _ _ _ _ _|exact YQ.zeroOf _ _|exact YQ.toZero _ _ _ _ _|exact YQ.AJ _ _ _|exact YQ.CR _|exact YQ.acX _|exact YQ.mX bH _ _|exact YQ.sL bH _ _ _|refine YQ.aA (fun _ _=>?_)|refine YQ.aF (fun _=>?_)|refine YQ.bind ?_ (fun _=>?_)|split))
end Go.Rn
namespace Go.Rn
variable {α:Type} {s:AS} {i:Nat}
theorem wL{k m:Nat}{l:List Nat}:k∈below m l↔k∈l/\k<m:=by
 have h1:∀l:List Nat,k∈uT m l↔k∈l/\k<m:=by
  intro l;induction l with
  |nil=>simp[uT]
  |cons x l ih=>
   have e:uT m (x::l)=if m<=x then uT m l else x::uT m l:=by
    show @Bool.rec (fun _=>List Nat) (uT m l) (x::uT m l) (not<|Nat.ble m x)=_;by_cases h:m<=x
    ·have:Nat.ble m x=true:=by rw[Nat.ble_eq];exact h
     rw[this,if_pos h];rfl
    ·have:Nat.ble m x=false:=by
      cases q:Nat.ble m x with
      |false=>rfl
      |true=>rw[Nat.ble_eq] at q;exact absurd q h
     rw[this,if_neg h];rfl
   rw[e];by_cases h:m<=x
   ·rw[if_pos h,ih];constructor
    ·rintro ⟨a,b⟩;exact⟨List.mem_cons_of_mem _ a,b⟩
    ·rintro ⟨a,b⟩;rcases List.mem_cons.1 a with rfl|a
     ·omega
     ·exact⟨a,b⟩
   ·rw[if_neg h,List.mem_cons,ih,List.mem_cons];constructor
    ·rintro (rfl|⟨a,b⟩)
     ·exact⟨.inl rfl,by omega⟩
     ·exact⟨.inr a,b⟩
    ·rintro ⟨rfl|a,b⟩
     ·exact .inl rfl
     ·exact .inr ⟨a,b⟩
 have e:below m l=if m=0 then[] else uT m l:=by
  show @Bool.rec (fun _=>List Nat) (uT m l) [] (Nat.beq m 0)=_;rw[MZ];by_cases h:m=0
  ·rw[if_pos h,if_pos (by rw[beq_eq];exact h)]
  ·rw[if_neg h,if_neg (by rw[beq_eq];exact h)]
 rw[e];by_cases h:m=0
 ·rw[if_pos h];subst h;simp
 ·rw[if_neg h,h1]
theorem SJ{m:M α}{s2:AS}{x:α×Met}(h:alone i m s= .ok x s2):
 ∃a s1,m ⟨s.h,s.nx,s.nx,[],[]⟩= .ok a s1/\x=(a,⟨i,below s.nx s1.rd,below s.nx s1.wr,s.nx,s1.nx⟩)/\s2=⟨s1.h,s1.nx,s.mark,below s.mark s1.rd++s.rd,below s.mark s1.wr++s.wr⟩:=by
 obtain⟨hh,nx,mark,rd,wr⟩:=s;have e:alone i m ⟨hh,nx,mark,rd,wr⟩=forced nx fun lo=>
  @R.rec α (fun _=>R<|α×Met) .bad (fun a s1=>
   @AS.rec (fun _=>R<|α×Met) (fun h1 pR _ gq nW=>forced pR fun hi=>.ok (a,⟨i,below lo gq,below lo nW,lo,hi⟩) ⟨h1,hi,mark,below mark gq++rd,below mark nW++wr⟩) s1)
   (m ⟨hh,lo,lo,[],[]⟩):=rfl
 rw[e,yL] at h;cases hm:m ⟨hh,nx,nx,[],[]⟩ with
 |bad=>rw[hm] at h;cases h
 |ok a s1=>rw[hm] at h;obtain⟨h1,pR,O4,gq,nW⟩:=s1;have h':forced pR (fun hi=>R.ok (a,(⟨i,below nx gq,below nx nW,nx,hi⟩:Met)) (⟨h1,hi,mark,below mark gq++rd,below mark nW++wr⟩:AS))= .ok x s2:=h;rw[yL] at h';cases h';exact⟨a,⟨h1,pR,O4,gq,nW⟩,by first|exact hm|rfl,rfl,rfl⟩
theorem abH{m:M α}{s1:AS}{a:α}(h:m ⟨s.h,s.nx,s.nx,[],[]⟩= .ok a s1):
 alone i m s= .ok (a,⟨i,below s.nx s1.rd,below s.nx s1.wr,s.nx,s1.nx⟩) ⟨s1.h,s1.nx,s.mark,below s.mark s1.rd++s.rd,below s.mark s1.wr++s.wr⟩:=by
 obtain⟨hh,nx,mark,rd,wr⟩:=s;have e:alone i m ⟨hh,nx,mark,rd,wr⟩=forced nx fun lo=>
  @R.rec α (fun _=>R<|α×Met) .bad (fun a s1=>
   @AS.rec (fun _=>R<|α×Met) (fun h1 pR _ gq nW=>forced pR fun hi=>.ok (a,⟨i,below lo gq,below lo nW,lo,hi⟩) ⟨h1,hi,mark,below mark gq++rd,below mark nW++wr⟩) s1)
   (m ⟨hh,lo,lo,[],[]⟩):=rfl
 rw[e,yL,h];obtain⟨h1,pR,O4,gq,nW⟩:=s1;show forced pR (fun hi=>R.ok (a,(⟨i,below nx gq,below nx nW,nx,hi⟩:Met)) (⟨h1,hi,mark,below mark gq++rd,below mark nW++wr⟩:AS))=_;rw[yL]
theorem YQ.alone{α:Type}(i:Nat){m:M α}(hm:YQ m):YQ<|alone i m:=by
 intro s v s2 fi h;obtain⟨a,s1,h1,rfl,rfl⟩:=SJ h;obtain⟨dr,dw,d,x⟩:=hm ⟨s.h,s.nx,s.nx,[],[]⟩ a s1 ⟨Nat.le_refl _,fi.nx⟩ h1;have er:s1.rd=dr:=by have:=d.rd;simpa using this
 have ew:s1.wr=dw:=by have:=d.wr;simpa using this
 refine⟨below s.mark dr,below s.mark dw,⟨by show below s.mark s1.rd++s.rd=_;rw[er],by show below s.mark s1.wr++s.wr=_;rw[ew],d.nx,d.top,rfl,?_,?_,d.rT⟩,?_⟩
 ·intro k hk hn;exact d.same k (Nat.lt_of_lt_of_le hk fi.mark) fun e=>hn<|wL.2 ⟨e,hk⟩
 ·intro k hk;obtain⟨a,b⟩:=wL.1 hk;exact wL.2 ⟨d.sub k a,b⟩
 ·intro A m0 t ag hA;obtain⟨t1,e1,al⟩:=x A m0 ⟨t.h,t.nx,t.nx,[],[]⟩ ⟨ag.nx,ag.nx,Nat.le_trans ag.low fi.mark,ag.is⟩ fun k hk cf=>hA k (wL.2 ⟨hk,Nat.lt_of_lt_of_le cf ag.low⟩) cf;have er':t1.rd=dr:=by have:=al.rd;simpa using this
  have ew':t1.wr=dw:=by have:=al.wr;simpa using this
  have hr:=abH (i:=i) (s:=t) e1;rw[er',ew', ←ag.nx, ←ag.mark, ←al.agree.nx] at hr;rw[er,ew];refine⟨_,hr,⟨rfl,rfl,ag.low,al.agree.is⟩,rfl,rfl,fun k hk hn=>al.same k hk fun e=>hn<|wL.2 ⟨e,Nat.lt_of_lt_of_le hk ag.low⟩,al.rT⟩
theorem YQ.gO(P:Program){YR:aJ}(bH:∀t a,YQ<|YR t a)(nt:Nat)(ops:Array Oper)(o:Oper)(t:Tr AV):YQ<|gO P YR nt ops o t:=by
 have hv:∀t op,YQ<|(dI P op).val YR t:=fun t op=>YQ.GO P bH t op;unfold Rn.gO Bl;split<;>simp only[qI.val]
 ·unfold rS;refine YQ.bind (hv _ _) fun _=>YQ.lift _
 ·unfold tC;rename_i g _;refine YQ.aF fun _=>?_;cases qe ops g t
  ·exact YQ.lift _
  ·exact YQ.bind (hv _ _) fun _=>YQ.lift _
theorem YQ.jj(P:Program){YR:aJ}(bH:∀t a,YQ<|YR t a)(nt:Nat)(ops:Array Oper):∀(l:List Oper) (t:Tr AV),YQ (jj P YR nt ops l t)
 |[],t=>YQ.pure t
 |o::l,t=>YQ.bind (YQ.gO P bH nt ops o t) fun t=>YQ.jj P bH nt ops l t
theorem YQ.mY(P:Program){YR:aJ}(bH:∀t a,YQ<|YR t a)(nt:Nat)(ops:Array Oper):∀(l:List Oper) (i:Nat) (t:Tr AV),YQ (mY P YR nt ops l i t)
 |[],_,_=>YQ.pure _
 |o::l,i,t=>YQ.bind (YQ.alone i<|YQ.gO P bH nt ops o t) fun x=>YQ.bind (YQ.mY P bH nt ops l (i+1) x.1) fun _=>YQ.pure _
theorem YQ.qc(P:Program){YR:aJ}(bH:∀t a,YQ<|YR t a)(nt:Nat)(ops:Array Oper)(t:Tr AV):YQ<|qc P YR nt ops t:=YQ.bind (YQ.mY P bH nt ops _ _ _) fun _=>YQ.aF fun _=>YQ.pure _
theorem YQ.getLoop(l:Nat):YQ<|getLoop l:=by
 unfold Rn.getLoop
 repeat' (first
  |exact YQ.pure _|exact YQ.fail|exact YQ.lift _|exact YQ.pH _|exact YQ.bu _|exact YQ.bK _ _|exact YQ.gC _
  |refine YQ.aA (fun _ _=>?_)|refine YQ.aF (fun _=>?_)|refine YQ.bind ?_ (fun _=>?_)
  |split)
theorem YQ.lQ(l:Nat):YQ<|lQ l:=by
 unfold Rn.lQ
 repeat' (first
  |exact YQ.pure _|exact YQ.fail|exact YQ.lift _|exact YQ.pH _|exact YQ.bu _|exact YQ.bK _ _|exact YQ.gC _|exact YQ.getLoop _
  |refine YQ.aA (fun _ _=>?_)|refine YQ.aF (fun _=>?_)|refine YQ.bind ?_ (fun _=>?_)
  |split)
theorem YQ.af1(P:Program){YR:aJ}(bH:∀t a,YQ<|YR t a)(it:Item)(fn:FuncId)(t:Tr AV)(nt:Nat)(d:List Nat)(r:Option Nat)(k:List Item):YQ<|(vw P it).val YR fn t nt d r k:=by
 cases it<;>simp only[vw]<;>(try simp only[qI.val])
 case code c=>
  unfold Wd;split<;>simp only<;>(first|(unfold qy;exact YQ.pure _)|(unfold nF;exact YQ.pure _)|(unfold WK;exact YQ.pure _)|(unfold O2;exact YQ.fail)|(unfold JL;exact YQ.aA fun _ _=>YQ.aA fun _ _=>YQ.pure _)|(unfold Dq;split<;>exact YQ.pure _)|(unfold Dr;split<;>exact YQ.pure _)|(unfold IF;exact YQ.bind (YQ.jj P bH _ _ _ _) fun _=>YQ.pure _)|(unfold Ia;exact YQ.bind (YQ.qc P bH _ _ _) fun _=>YQ.pure _)|skip);unfold uZ
  repeat' (first
   |exact YQ.pure _|exact YQ.fail|exact YQ.lift _|exact YQ.pH _|exact YQ.bu _|exact YQ.bK _ _|exact YQ.gC _
   |exact YQ.mX bH _ _|exact bH _ _|exact YQ.getLoop _|exact YQ.lQ _
   |refine YQ.aA (fun _ _=>?_)|refine YQ.aF (fun _=>?_)|refine YQ.bind ?_ (fun _=>?_)
   |split)
 case beginRound=>
  unfold yY
  repeat' (first
   |exact YQ.pure _|exact YQ.fail|exact YQ.lift _|exact YQ.pH _|exact YQ.bu _|exact YQ.bK _ _|exact YQ.gC _|exact YQ.getLoop _
   |refine YQ.aA (fun _ _=>?_)|refine YQ.aF (fun _=>?_)|refine YQ.bind ?_ (fun _=>?_)
   |split)
 all_goals (first|exact YQ.pure _|exact YQ.fail)
theorem YQ.je(P:Program){YR:aJ}(bH:∀t a,YQ<|YR t a)(fr:AF):YQ<|je P YR fr:=by
 obtain⟨fn,t,nt,todo,d,r⟩:=fr;cases todo with
 |nil=>exact YQ.pure _
 |cons it k=>exact YQ.af1 P bH it fn t nt d r k
theorem YQ.nG(P:Program){YR:aJ}(bH:∀t a,YQ<|YR t a):∀(n:Nat) (fr:AF),YQ (nG P YR n fr)
 |0,fr=>YQ.je P bH fr
 |n+1,fr=>YQ.bind (YQ.nG P bH n fr) (fun x=>by
  cases x with
  |go fr=>exact YQ.nG P bH n fr
  |leave fr j=>exact YQ.pure _)
theorem YQ.ql(P:Program){YR:aJ}(bH:∀t a,YQ<|YR t a):∀(n k:Nat) (fr:AF),YQ (ql P YR n k fr)
 |0,_,_=>YQ.fail
 |n+1,k,fr=>YQ.bind (YQ.nG P bH k fr) (fun x=>by
  cases x with
  |go fr=>exact YQ.ql P bH n (k+1) fr
  |leave fr j=>exact YQ.pure _)
theorem YQ.AB(P:Program)(t:Tr AV)(r:ResultVar):YQ<|AB P t r:=by
 unfold Rn.AB
 repeat' (first
  |exact YQ.pure _|exact YQ.fail|exact YQ.lift _|exact YQ.pH _|exact YQ.bu _|exact YQ.bK _ _|exact YQ.gC _|exact YQ.loadVar _ _ _ _
  |refine YQ.aA (fun _ _=>?_)|refine YQ.aF (fun _=>?_)|refine YQ.bind ?_ (fun _=>?_)
  |split)
theorem YQ.sI(P:Program)(t:Tr AV):∀l:List ResultVar,YQ (sI P t l)
 |[]=>YQ.pure _
 |r::l=>YQ.bind (YQ.AB P t r) fun _=>YQ.bind (YQ.sI P t l) fun _=>YQ.pure _
theorem YQ.qZ:∀l:List Nat,YQ (qZ l)
 |[]=>YQ.pure _
 |d::l=>YQ.bind (YQ.bu d) (fun o=>by
  split
  ·exact YQ.bind (YQ.bK _ _) (fun _=>YQ.qZ l)
  ·exact YQ.fail)
theorem YQ.finish(P:Program)(rs:List ResultVar)(fr:AF)(j:Option Code):YQ<|finish P rs fr j:=by
 unfold Rn.finish
 repeat' (first
  |exact YQ.pure _|exact YQ.fail|exact YQ.lift _|exact YQ.pH _|exact YQ.bu _|exact YQ.bK _ _|exact YQ.gC _|exact YQ.qZ _|exact YQ.sI _ _ _
  |refine YQ.aA (fun _ _=>?_)|refine YQ.aF (fun _=>?_)|refine YQ.bind ?_ (fun _=>?_)
  |split)
theorem YQ.ri(fr:AF)(it:Operand):YQ<|ri fr it:=by
 unfold Rn.ri
 repeat' (first
  |exact YQ.pure _|exact YQ.fail|exact YQ.lift _|exact YQ.bu _
  |refine YQ.bind ?_ (fun _=>?_)
  |split)
theorem YQ.nB(P:Program){YR:aJ}(bH:∀t a,YQ<|YR t a)(fr:AF)(n:Nat)(ob:ae)(o:Oper)(ops:Array Oper)(rest:List Oper)(k:List Item)(v:AV):
 YQ (nB P YR fr n ob o ops rest k v):=by
 unfold Rn.nB
 repeat' (first
  |exact YQ.pure _|exact YQ.lift _|exact YQ.bK _ _|exact YQ.jj P bH _ _ _ _
  |refine YQ.bind ?_ fun _=>?_)
theorem YQ.nz(P:Program){YR:aJ}(bH:∀t a,YQ<|YR t a)(fr:AF)(n m:Nat)(es:List<|AV×AV)(ex:Bool)(o:Oper)(ops:Array Oper)(rest:List Oper)(k:List Item):
 YQ (nz P YR fr n m es ex o ops rest k):=by
 unfold Rn.nz
 repeat' (first
  |exact YQ.pure _|exact YQ.lift _|exact YQ.bK _ _|exact YQ.jj P bH _ _ _ _
  |refine YQ.bind ?_ fun _=>?_)
theorem YQ.nC(P:Program){YR:aJ}(bH:∀t a,YQ<|YR t a):∀(f:Nat) (fr:AF),YQ (nC P YR f fr)
 |0,_=>YQ.fail
 |f+1,fr=>by
  unfold Rn.nC
  repeat' (first
   |exact YQ.fail|exact YQ.pure _|exact YQ.nC P bH f _|exact YQ.ri _ _|exact YQ.nB P bH _ _ _ _ _ _ _ _|exact YQ.nz P bH _ _ _ _ _ _ _ _ _|exact YQ.je P bH _
   |refine YQ.bind ?_ (fun _=>?_)
   |split)
theorem YQ.zy(P:Program){YR:aJ}(bH:∀t a,YQ<|YR t a)(w:Nat)(fr:AF):YQ<|zy P YR w fr:=by
 unfold Rn.zy;split
 ·exact YQ.nC P bH _ _
 ·exact YQ.ql P bH _ _ _
theorem YQ.Ds(P:Program)(u f n:Nat)(rs:List ResultVar)(body:Code){YR:aJ}(bH:∀t a,YQ<|YR t a)(args:List AV):YQ<|Ds P u f n rs body YR args:=
 YQ.aF (fun _=>YQ.bind (YQ.zy P bH _ _) (fun x=>by
  cases x with
  |go fr=>exact YQ.fail
  |leave fr j=>exact YQ.finish P rs fr j))
theorem YQ.endRound(l:Nat)(j:Option Code):YQ<|endRound l j:=by
 unfold Rn.endRound
 repeat' (first
  |exact YQ.pure _|exact YQ.fail|exact YQ.lift _|exact YQ.pH _|exact YQ.bu _|exact YQ.bK _ _|exact YQ.gC _|exact YQ.getLoop _
  |refine YQ.aA (fun _ _=>?_)|refine YQ.aF (fun _=>?_)|refine YQ.bind ?_ (fun _=>?_)
  |split)
theorem YQ.AE(P:Program){YR:aJ}(bH:∀t a,YQ<|YR t a)(l:Nat)(args:List AV):YQ<|AE P YR l args:=by
 unfold Rn.AE;refine YQ.bind (YQ.getLoop _) fun o=>?_;split
 ·exact YQ.aF fun _=>YQ.bind (YQ.ql P bH _ _ _) (fun x=>by
   cases x with
   |go fr=>exact YQ.fail
   |leave fr j=>exact YQ.endRound l j)
 ·exact YQ.fail
end Go.Rn
namespace Go.Rn
end Go.Rn
namespace Go.Rn
theorem Ib{n:Nat}:∀{l:List Nat},Bt n l=true↔n∈l
 |[]=>by simp[Bt]
 |x::l=>by
  simp only[Bt];cases h:Nat.beq x n with
  |true=>rw[beq_eq] at h;subst h;simp
  |false=>
   have:¬x=n:=by rw[←beq_eq,h];simp
   simp only[Ib (l:=l),List.mem_cons];constructor
   ·exact .inr
   ·rintro (e|e)
    ·exact absurd e.symm this
    ·exact e
theorem HH(P:Program)(j9:FuncId->Nat):∀(n:Nat) (t:GN) (args:List AV),YQ (zA P j9 n t args)
 |0,_,_=>YQ.fail
 |n+1,.fn f,args=>by
  have bH:∀t a,YQ<|zA P j9 n t a:=fun t a=>HH P j9 n t a;show YQ<|(GP P j9 f).val (zA P j9 n) args;unfold GP
  repeat' split
  all_goals first|exact YQ.fail|exact YQ.Ds P _ _ _ _ _ bH _
 |n+1,.round l,args=>YQ.AE P (fun t a=>HH P j9 n t a) l args
 |_+1,.row _ _ _,_=>YQ.fail
end Go.Rn
