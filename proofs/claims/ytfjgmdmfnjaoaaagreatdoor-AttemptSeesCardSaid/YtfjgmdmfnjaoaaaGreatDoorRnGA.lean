import Derived.Calls
import Derived.Orders
set_option maxRecDepth 100000
set_option maxHeartbeats 8000000
set_option linter.unusedSimpArgs false
set_option linter.unusedVariables false
namespace Go.Rn
variable {α:Type} {P:Prop}
noncomputable section
inductive Tr (α:Type) where
 |nil:Tr α
 |node (l:Tr α) (v:Option α) (r:Tr α):Tr α
def Tr.vJ(p:List Bool):Tr α->Option α:= @List.rec Bool (fun _=>Tr α->Option α) (fun t=> @Tr.rec α (fun _=>Option α) none (fun _ v _ _ _=>v) t) (fun b _ ih t=> @Tr.rec α (fun _=>Option α) none (fun l _ r _ _=>ih<|@Bool.rec (fun _=>Tr α) r l b) t) p
def Tr.mr(v:Option α)(p:List Bool):Tr α->Tr α:=
 @List.rec Bool (fun _=>Tr α->Tr α) (fun t=> @Tr.rec α (fun _=>Tr α) (.node .nil v .nil) (fun l _ r _ _=>.node l v r) t)
  (fun b _ ih t=> @Tr.rec α (fun _=>Tr α)
   (@Bool.rec (fun _=>Tr α) (.node .nil none<|ih .nil) (.node (ih .nil) none .nil) b)
   (fun l x r _ _=> @Bool.rec (fun _=>Tr α) (.node l x<|ih r) (.node (ih l) x r) b) t) p
theorem Tr.Iy(p:List Bool):(Tr.nil:Tr α).vJ p=none:=by cases p<;>rfl
theorem Tr.Ii(l r:Tr α)(v:Option α):(Tr.node l v r).vJ []=v:=rfl
theorem Tr.Ij(l r:Tr α)(v:Option α)(b:Bool)(p:List Bool):(Tr.node l v r).vJ (b::p)=if b=true then l.vJ p else r.vJ p:=by cases b<;>rfl
theorem Tr.Fg(l r:Tr α)(x v:Option α)(b:Bool)(p:List Bool):Tr.mr v (b::p) (Tr.node l x r)=if b=true then .node (Tr.mr v p l) x r else .node l x (Tr.mr v p r):=by cases b<;>rfl
theorem Tr.M9(v:Option α)(b:Bool)(p:List Bool):Tr.mr v (b::p) (Tr.nil:Tr α)=if b=true then .node (Tr.mr v p .nil) none .nil else .node .nil none (Tr.mr v p .nil):=by cases b<;>rfl
theorem Tr.Mq(v:Option α):∀(p q:List Bool) (t:Tr α),(Tr.mr v p t).vJ q=if q=p then v else t.vJ q
 |[],q,t=>by
  cases t with
  |nil=>
   show(Tr.node .nil v .nil).vJ q=_;cases q with
   |nil=>simp[Tr.Ii]
   |cons b q=>simp[Tr.Ij,Tr.Iy]
  |node l x r=>
   show(Tr.node l v r).vJ q=_;cases q with
   |nil=>simp[Tr.Ii]
   |cons b q=>simp[Tr.Ij]
 |a::p,q,t=>by
  cases t with
  |nil=>
   rw[Tr.M9];cases q with
   |nil=>cases a<;>simp[Tr.Ii,Tr.Iy]
   |cons b q=>cases a<;>cases b<;>simp[Tr.Ij,Tr.Iy,Tr.Mq v p q]
  |node l x r=>
   rw[Tr.Fg];cases q with
   |nil=>cases a<;>simp[Tr.Ii]
   |cons b q=>cases a<;>cases b<;>simp[Tr.Ij,Tr.Mq v p q]
def path(f:Nat):Nat->List Bool:= @Nat.rec (fun _=>Nat->List Bool) (fun _=>[]) (fun _ ih n=> @Bool.rec (fun _=>List Bool) (List.cons (Nat.beq (Nat.mod n 2) 1)<|ih<|Nat.div (Nat.pred n) 2) []<|Nat.beq n 0) f
theorem Nc(a b:α)(c:Bool): @Bool.rec (fun _=>α) a b c=if c=true then b else a:=by cases c<;>rfl
theorem beq_eq(n m:Nat):(Nat.beq n m=true)=(n=m):=by rw[Nat.beq_eq]
theorem Ik(f n:Nat):path (f+1) n=if n=0 then[] else(Nat.beq (n % 2) 1)::path f ((n - 1) / 2):=by show @Bool.rec (fun _=>List Bool) (List.cons (Nat.beq (n % 2) 1)<|path f<|(n - 1) / 2) [] (Nat.beq n 0)=_;simp only[Nc,beq_eq]
theorem Tz:∀(f n m:Nat),n+1<=2 ^ f->m+1<=2 ^ f->path f n=path f m->n=m
 |0,n,m,hn,hm,_=>by simp at hn hm;omega
 |f+1,n,m,hn,hm,h=>by
  rw[Ik,Ik] at h;have hp:2 ^ (f+1)=2*2 ^ f:=by rw[Nat.pow_succ];omega
  by_cases h0:n=0
  ·by_cases h1:m=0
   ·omega
   ·rw[if_pos h0,if_neg h1] at h;cases h
  ·by_cases h1:m=0
   ·rw[if_neg h0,if_pos h1] at h;cases h
   ·rw[if_neg h0,if_neg h1] at h;injection h with ha hb
    have:=Tz f _ _ (by omega) (by omega) hb;have hq:(n % 2=1)=(m % 2=1):=by rw[←beq_eq, ←beq_eq,ha]
    have dU:n % 2=1↔m % 2=1:=by rw[hq]
    omega
def top:Nat:=549755813888
def Tr.get(t:Tr α)(n:Nat):Option α:=Tr.vJ (path 40 n) t
def Tr.put(t:Tr α)(n:Nat)(v:Option α):Tr α:=Tr.mr v (path 40 n) t
theorem Tr.get_nil(n:Nat):(Tr.nil:Tr α).get n=none:=Tr.Iy _
theorem R6:∀(f k n:Nat),n+1<2 ^ k->(path f n).length<k
 |0,k,n,h=>by
  have:k≠0:=by intro e;subst e;simp at h
  show 0<k;omega
 |f+1,k,n,h=>by
  rw[Ik];have hk:k≠0:=by intro e;subst e;simp at h
  by_cases h0:n=0
  ·rw[if_pos h0];show 0<k;omega
  ·rw[if_neg h0];obtain⟨j,rfl⟩:∃j,k=j+1:=⟨k - 1,by omega⟩;have hp:2 ^ (j+1)=2*2 ^ j:=by rw[Nat.pow_succ];omega
   have:=R6 f j ((n - 1) / 2) (by omega);simp only[List.length_cons];omega
theorem SG:∀(f k n:Nat),k<=f->2 ^ k<=n+1->k<=(path f n).length
 |_,0,_,_,_=>Nat.zero_le _
 |0,k+1,_,h,_=>by omega
 |f+1,k+1,n,h,hn=>by
  have hp:2 ^ (k+1)=2*2 ^ k:=by rw[Nat.pow_succ];omega
  have h1:1<=2 ^ k:=Nat.one_le_two_pow;rw[Ik,if_neg<|by omega];have:=SG f k ((n - 1) / 2) (by omega) (by omega);simp only[List.length_cons];omega
theorem Ut{n m:Nat}(h:n<top)(e:m≠n):path 40 m≠path 40 n:=by
 unfold top at h;by_cases hm:m+1<=2 ^ 40
 ·exact fun k=>e<|Tz 40 m n hm (by omega) k
 ·intro k;have h1:=SG 40 40 m (Nat.le_refl _) (by omega);have h2:=R6 40 40 n (by omega);rw[k] at h1;omega
theorem Tr.lM(t:Tr α)(n m:Nat)(v:Option α)(h:n<top):(t.put n v).get m=if m=n then v else t.get m:=by
 unfold Tr.get Tr.put;rw[Tr.Mq];by_cases e:m=n
 ·subst e;simp
 ·simp[e,Ut h e]
theorem Tr.du(t:Tr α)(n m:Nat)(v:Option α)(h:n<top)(_:m<top):(t.put n v).get m=if m=n then v else t.get m:=Tr.lM t n m v h
def Tr.fill(l:List α):Nat->Tr α->Tr α:= @List.rec α (fun _=>Nat->Tr α->Tr α) (fun _ t=>t) (fun x _ ih i t=>ih (Nat.succ i)<|t.put i<|some x) l
theorem Tr.Nf:∀(l:List α) (i:Nat) (t:Tr α) (m:Nat),i+l.length<=top->m<top->
 (Tr.fill l i t).get m=if i<=m/\m<i+l.length then l[m - i]? else t.get m
 |[],i,t,m,_,_=>by show t.get m=_;simp;intro h1 h2;omega
 |x::l,i,t,m,h,hm=>by
  simp only[List.length_cons] at h;show(Tr.fill l (i+1)<|t.put i<|some x).get m=_;rw[Tr.Nf l _ _ _ (by omega) hm,Tr.du _ _ _ _ (by omega) hm];simp only[List.length_cons];by_cases h1:i+1<=m/\m<i+1+l.length
  ·have h2:i<=m/\m<i+(l.length+1):=by omega
   rw[if_pos h1,if_pos h2];obtain⟨k,rfl⟩:∃k,m=i+1+k:=⟨m - (i+1),by omega⟩;rw[show i+1+k - (i+1)=k from by omega,show i+1+k - i=k+1 from by omega];simp
  ·rw[if_neg h1];by_cases e:m=i
   ·subst e;simp
   ·have h2:¬(i<=m/\m<i+(l.length+1)):=by omega
    rw[if_neg e,if_neg h2]
theorem Tr.sO:∀(l:List α) (i:Nat) (t:Tr α) (m:Nat),i+l.length<=top->
 (Tr.fill l i t).get m=if i<=m/\m<i+l.length then l[m - i]? else t.get m
 |[],i,t,m,_=>by show t.get m=_;simp;intro h1 h2;omega
 |x::l,i,t,m,h=>by
  simp only[List.length_cons] at h;show(Tr.fill l (i+1)<|t.put i<|some x).get m=_;rw[Tr.sO l _ _ _ (by omega),Tr.lM _ _ _ _<|by omega];simp only[List.length_cons];by_cases h1:i+1<=m/\m<i+1+l.length
  ·have h2:i<=m/\m<i+(l.length+1):=by omega
   rw[if_pos h1,if_pos h2];obtain⟨k,rfl⟩:∃k,m=i+1+k:=⟨m - (i+1),by omega⟩;rw[show i+1+k - (i+1)=k from by omega,show i+1+k - i=k+1 from by omega];simp
  ·rw[if_neg h1];by_cases e:m=i
   ·subst e;simp
   ·have h2:¬(i<=m/\m<i+(l.length+1)):=by omega
    rw[if_neg e,if_neg h2]
end
theorem aj(h:P:=by omega):P:=h
theorem fO(h:P:=by simp[Op.operands]):P:=h
theorem iz(h:P:=by decide):P:=h
theorem iH(h:P:=by simp):P:=h
theorem Ew(h:P:=by rw[←ag.nx];exact h1):P:=h
theorem vX(h:P:=by simp;omega):P:=h
theorem Ey(h:P:=by rw[←hg];exact h2):P:=h
end Go.Rn
namespace Go.Rn
variable {l:List Item} {it:Item}
def loose(b:Array Nat)(i j:Nat):Bool:= !((b.getD i 0).testBit j||(b.getD j 0).testBit i)
def IT(ops:Array Oper):Prop:=∀(j:Nat) (o:Oper) (e:Edge),ops[j]? =some o->e∈o.after->Region.binds .any e=true->e.on<j
def adk(ops:Array Oper):Prop:=∀(i j:Nat) (x y:Oper) (d:Tmp),i≠j->ops[i]? =some x->ops[j]? =some y->x.dst=some d->(d∈y.looksAt ops\/y.dst=some d)->loose (Region.before ops) i j=false
structure J1 (ops:Array Oper):Prop where
 V5:IT ops
 DD:adk ops
def ir:Code->Prop
 | .seq a b=>ir a/\ir b
 | .cond _ a b=>ir a/\ir b
 | .block _ b=>ir b
 | .loop b=>ir b
 | .scope b=>ir b
 | .region _ ops draw=>draw=true->J1 ops
 | .rangeFunc _ _ a b=>ir a/\ir b
 |_=>True
def Jp:Item->Prop
 | .code c=>ir c
 | .inLoop b=>ir b
 | .inScope b=>ir b
 |_=>True
def jB(l:List Item):Prop:=∀it∈l,Jp it
structure FW (bR:Option Code) (assign body:Code):Prop where
 bR:∀c,bR=some c->ir c
 assign:ir assign
 body:ir body
theorem jB.cons(h:Jp it)(k:jB l):jB<|it::l:=by
 intro x hx;rcases List.mem_cons.1 hx with rfl|hx
 ·exact h
 ·exact k x hx
theorem jB.head(h:jB<|it::l):Jp it:=h it List.mem_cons_self
theorem jB.tail(h:jB<|it::l):jB l:=fun x hx=>h x<|List.mem_cons_of_mem _ hx
theorem jB.nil:jB []:=fun _ h=>by cases h
theorem Mr{id:Nat}:∀{k k':List Item},exitTo id k=some k'->jB k->jB k'
  |[],_,h,_=>by simp[exitTo] at h
  | it::k,k',h,hk=>by
    cases it<;>simp only[exitTo] at h<;>first
      |exact Mr h hk.tail
      | (split at h
         · injection h with h;subst h;exact hk.tail
         · exact Mr h hk.tail)
theorem Za{l:Nat}:∀{c r:Code},findLabel c l=some r->ir c->ir r:=by
 intro c;induction c with
 |seq a b B0 B1=>
  intro r h hc;simp only[findLabel] at h;cases e:findLabel a l with
  |some q=>rw[e] at h;injection h with h;subst h;exact⟨B0 e hc.1,hc.2⟩
  |none=>rw[e] at h;exact B1 h hc.2
 |label l'=>
  intro r h _;simp only[findLabel] at h;split at h
  ·injection h with h;subst h;trivial
  ·cases h
 |_=>intro r h _;simp[findLabel] at h
theorem Ms{l:Nat}:∀{k k':List Item},gotoIn l k=some k'->jB k->jB k'
 |[],_,h,_=>by simp[gotoIn] at h
 |it::k,k',h,hk=>by
  cases it<;>simp only[gotoIn] at h<;>first
   |exact Ms h hk.tail
   |skip
  rename_i body;cases e:findLabel body l with
  |some q=>rw[e] at h;injection h with h;subst h;exact .cons (Za e hk.head) hk
  |none=>rw[e] at h;exact Ms h hk.tail
end Go.Rn
namespace Go.Rn
variable {n sh b nt:Nat} {w:World} {v:Value} {a:Array Value}
inductive cC where
 |known (c:Nat)
 |aq (lo e:Nat)
 |lost
 deriving Inhabited,DecidableEq
inductive AV where
 |bool (b:Bool)
 |int (k:IntKind) (n:Int)
 |str (s:ByteArray)
 |ptr (a:Option<|Nat×Nat)
 |slice (a:Option<|Nat×Nat) (len:Nat) (cap:cC)
 |U (n o len:Nat)
 |pC (n o:Nat)
 |map (r:Option Nat)
 |func (fn:Fn) (first captured:List AV)
 |yield (l:Nat)
 |nilFunc
 |iface (t:TypeId) (v:AV)
 |nilIface
 |agg (cells:List AV)
 |tuple (vs:List AV)
 |Ko (n:Nat)
 deriving Inhabited
abbrev aw:=Nat->Option (Nat×Nat)
def aw.le(ρ σ:aw):Prop:=∀n x,ρ n=some x->σ n=some x
theorem aw.le_refl(ρ:aw):ρ.le ρ:=fun _ _ h=>h
theorem aw.le_trans{ρ σ τ:aw}(h:ρ.le σ)(k:σ.le τ):ρ.le τ:=fun n x e=>k n x<|h n x e
def Uu:Fn->Bool
 | .yield _=>false
 |_=>true
def pr(a b:Nat):Nat:=2 ^ a*(2*b+1)
theorem fI:∀{a b c d:Nat},pr a b=pr c d->a=c/\b=d
 |0,b,0,d,h=>by unfold pr at h;omega
 |0,b,c+1,d,h=>by
  unfold pr at h;have e:2 ^ (c+1)*(2*d+1)=2*(2 ^ c*(2*d+1)):=by rw[Nat.pow_succ,Nat.mul_comm (2 ^ c) 2,Nat.mul_assoc]
  rw[e] at h;omega
 |a+1,b,0,d,h=>by
  unfold pr at h;have e:2 ^ (a+1)*(2*b+1)=2*(2 ^ a*(2*b+1)):=by rw[Nat.pow_succ,Nat.mul_comm (2 ^ a) 2,Nat.mul_assoc]
  rw[e] at h;omega
 |a+1,b,c+1,d,h=>by
  have e1:pr (a+1) b=2*pr a b:=by unfold pr;rw[Nat.pow_succ,Nat.mul_comm (2 ^ a) 2,Nat.mul_assoc]
  have e2:pr (c+1) d=2*pr c d:=by unfold pr;rw[Nat.pow_succ,Nat.mul_comm (2 ^ c) 2,Nat.mul_assoc]
  obtain⟨h1,h2⟩:=fI (a:=a) (b:=b) (c:=c) (d:=d) aj;exact⟨by omega,h2⟩
def hn(n b sh:Nat):Nat:=top+pr n (pr b sh)
theorem fY(n b sh:Nat):top<=hn n b sh:=Nat.le_add_right _ _
theorem Jq{n' b' Qh:Nat}(h:hn n b sh=hn n' b' Qh):n=n'/\b=b'/\sh=Qh:=by unfold hn at h;obtain⟨h1,h2⟩:=fI (show pr n (pr b sh)=pr n' (pr b' Qh) by omega);exact⟨h1,fI h2⟩
def qA(ρ:aw)(n b sh:Nat):Prop:=(¬top<=n/\ρ n=some (b,sh))\/(top<=n/\ρ (hn n b sh)≠none)
theorem qA.high{ρ:aw}(h:qA ρ n b sh)(ht:top<=n):ρ (hn n b sh)≠none:=h.elim (fun h=>absurd ht h.1) fun h=>h.2
theorem qA.low{ρ:aw}(h:qA ρ n b sh)(ht:¬top<=n):ρ n=some (b,sh):=h.elim (fun h=>h.2) fun h=>absurd h.1 ht
theorem qA.mono{ρ σ:aw}(h:ρ.le σ):qA ρ n b sh->qA σ n b sh
  | .inl ⟨a,b⟩=>.inl ⟨a,h _ _ b⟩
  | .inr ⟨a,b⟩=>.inr ⟨a,fun e=>b (by
    cases q:ρ (hn n _ sh) with
    |none=>rfl
    |some x=>rw[h _ _ q] at e;cases e)⟩
def zOk(n:Nat)(a:Option Addr)(c:Nat):Prop:=(a=none->c=0)/\(n=top->a=none)/\(n=top+1->a≠none)
mutual
def VR(ρ:aw):AV->Value->Prop
 | .bool b,v=>v= .bool b
 | .int k n,v=>v= .int k n
 | .str s,v=>v= .string s
 | .ptr none,v=>v= .pointer none
 | .ptr (some (n,o)),v=>∃b N,ρ n=some (b,N)/\v= .pointer (some ⟨b,o,none⟩)
 | .slice none len (.known c),v=>v= .slice none len c/\len=0/\c=0
 | .slice none _ (.aq _ _),_=>False
 | .slice none _ .lost,_=>False
 | .slice (some (n,_)) len .lost,v=>len=0/\∃b N o c,ρ n=some (b,N)/\v= .slice (some ⟨b,o,none⟩) 0 c
 | .slice (some (n,o)) len (.known c),v=>∃b N,ρ n=some (b,N)/\v= .slice (some ⟨b,o,none⟩) len c
 | .slice (some (n,o)) len (.aq lo e),v=>∃b N c,ρ n=some (b,N)/\v= .slice (some ⟨b,o,none⟩) len c/\lo<=c/\len<=c/\o+c*e<=N
 | .U n o len,v=>(top<=n/\len=0/\∃a c,v= .slice a 0 c/\zOk n a c)\/∃b sh c,qA ρ n b sh/\v= .slice (some ⟨b,sh+o,none⟩) len c/\(top<=n->len<=c/\n≠top)
 | .pC n o,v=>∃b sh,qA ρ n b sh/\v= .pointer (some ⟨b,sh+o,none⟩)
 | .map none,v=>v= .map none
 | .map (some n),v=>∃b N,ρ n=some (b,N)/\v= .map (some b)
 | .func fn first captured,v=>Uu fn=true/\∃f c,v= .func fn f c/\aA ρ first f.toList/\aA ρ captured c.toList
 | .yield l,v=>∃b N,ρ l=some (b,N)/\v= .func (.yield b) #[] #[]
 | .nilFunc,v=>v= .nilFunc
 | .iface t x,v=>∃y,v= .iface t y/\VR ρ x y
 | .nilIface,v=>v= .nilIface
 | .agg l,v=>∃a,v= .agg a/\aA ρ l a.toList
 | .tuple l,v=>∃a,v= .tuple a/\aA ρ l a.toList
 | .Ko n,v=>v= .string ⟨(List.replicate n (0:UInt8)).toArray⟩
def aA(ρ:aw):List AV->List Value->Prop
 |[],l=>l=[]
 |x::xs,l=>∃y ys,l=y::ys/\VR ρ x y/\aA ρ xs ys
end
mutual
theorem VR.mono{ρ σ:aw}(h:ρ.le σ):∀(x:AV) (v:Value),VR ρ x v->VR σ x v
 | .bool _,_,k=>by simpa only[VR] using k
 | .int _ _,_,k=>by simpa only[VR] using k
 | .str _,_,k=>by simpa only[VR] using k
 | .Ko _,_,k=>by simpa only[VR] using k
 | .ptr none,_,k=>by simpa only[VR] using k
 | .ptr (some (n,o)),_,k=>by simp only[VR] at k ⊢;obtain⟨b,N,e,r⟩:=k;exact⟨b,N,h _ _ e,r⟩
 | .slice none len (.known c),_,k=>by simpa only[VR] using k
 | .slice none _ (.aq _ _),_,k=>by simp only[VR] at k
 | .slice none _ .lost,_,k=>by simp only[VR] at k
 | .slice (some (n,o)) len .lost,_,k=>by simp only[VR] at k ⊢;obtain⟨l,b,N,p,c,e,r⟩:=k;exact⟨l,b,N,p,c,h _ _ e,r⟩
 | .slice (some (n,o)) len (.known c),_,k=>by simp only[VR] at k ⊢;obtain⟨b,N,e,r⟩:=k;exact⟨b,N,h _ _ e,r⟩
 | .slice (some (n,o)) len (.aq lo e),_,k=>by simp only[VR] at k ⊢;obtain⟨b,N,c,e,r⟩:=k;exact⟨b,N,c,h _ _ e,r⟩
 | .U n o len,_,k=>by simp only[VR] at k ⊢;rcases k with k|⟨b,sh,c,e,r⟩;exact .inl k;exact .inr ⟨b,sh,c,e.mono h,r⟩
 | .pC n o,_,k=>by simp only[VR] at k ⊢;obtain⟨b,sh,e,r⟩:=k;exact⟨b,sh,e.mono h,r⟩
 | .map none,_,k=>by simpa only[VR] using k
 | .map (some n),_,k=>by simp only[VR] at k ⊢;obtain⟨b,N,e,r⟩:=k;exact⟨b,N,h _ _ e,r⟩
 | .func fn first captured,_,k=>by simp only[VR] at k ⊢;obtain⟨p,f,c,e,r,s⟩:=k;exact⟨p,f,c,e,aA.mono h _ _ r,aA.mono h _ _ s⟩
 | .yield l,_,k=>by simp only[VR] at k ⊢;obtain⟨b,N,e,r⟩:=k;exact⟨b,N,h _ _ e,r⟩
 | .nilFunc,_,k=>by simpa only[VR] using k
 | .iface t x,_,k=>by simp only[VR] at k ⊢;obtain⟨y,e,r⟩:=k;exact⟨y,e,VR.mono h _ _ r⟩
 | .nilIface,_,k=>by simpa only[VR] using k
 | .agg l,_,k=>by simp only[VR] at k ⊢;obtain⟨a,e,r⟩:=k;exact⟨a,e,aA.mono h _ _ r⟩
 | .tuple l,_,k=>by simp only[VR] at k ⊢;obtain⟨a,e,r⟩:=k;exact⟨a,e,aA.mono h _ _ r⟩
theorem aA.mono{ρ σ:aw}(h:ρ.le σ):∀(x:List AV) (v:List Value),aA ρ x v->aA σ x v
 |[],_,k=>by simpa only[aA] using k
 |x::xs,_,k=>by simp only[aA] at k ⊢;obtain⟨y,ys,e,r,s⟩:=k;exact⟨y,ys,e,VR.mono h _ _ r,aA.mono h _ _ s⟩
end
theorem aA.length{ρ:aw}:∀{x:List AV} {v:List Value},aA ρ x v->x.length=v.length
 |[],_,k=>by simp only[aA] at k;subst k;rfl
 |x::xs,_,k=>by simp only[aA] at k;obtain⟨y,ys,rfl,_,s⟩:=k;simp[aA.length s]
theorem aA.get{ρ:aw}:∀{x:List AV} {v:List Value},aA ρ x v->∀(i:Nat) (a:AV),x[i]? =some a->∃b,v[i]? =some b/\VR ρ a b
 |[],_,_,_,_,h=>by simp at h
 |x::xs,_,k,i,a,h=>by
  simp only[aA] at k;obtain⟨y,ys,rfl,r,s⟩:=k;cases i with
  |zero=>simp at h;subst h;exact⟨y,rfl,r⟩
  |succ i=>simp at h;obtain⟨b,hb,hr⟩:=aA.get s i a h;exact⟨b,by simpa using hb,hr⟩
theorem aA.append{ρ:aw}:∀{x:List AV} {v:List Value} {x':List AV} {v':List Value},aA ρ x v->aA ρ x' v'->aA ρ (x++x') (v++v')
 |[],_,_,_,k,h=>by simp only[aA] at k;subst k;simpa using h
 |x::xs,_,_,_,k,h=>by simp only[aA] at k;obtain⟨y,ys,rfl,r,s⟩:=k;simp only[List.cons_append,aA];exact⟨y,_,rfl,r,aA.append s h⟩
theorem aA.Vm{ρ:aw}:∀(x:List AV) (v:List Value),x.length=v.length->(∀(i:Nat) (a:AV) (b:Value),x[i]? =some a->v[i]? =some b->VR ρ a b)->aA ρ x v
 |[],[],_,_=>by simp only[aA]
 |[],_::_,h,_=>by simp at h
 |_::_,[],h,_=>by simp at h
 |x::xs,y::ys,h,k=>by simp only[aA];exact⟨y,ys,rfl,k 0 x y rfl rfl,aA.Vm xs ys (by simpa using h) fun i a b ha hb=>k (i+1) a b (by simpa using ha)<|by simpa using hb⟩
theorem aA.take{ρ:aw}:∀(n:Nat) {x:List AV} {v:List Value},aA ρ x v->aA ρ (x.take n) (v.take n)
 |0,_,_,_=>by simp[aA]
 |n+1,[],_,k=>by simp only[aA] at k;subst k;simp[aA]
 |n+1,x::xs,_,k=>by simp only[aA] at k;obtain⟨y,ys,rfl,r,s⟩:=k;simp only[List.take_succ_cons,aA];exact⟨y,_,rfl,r,aA.take n s⟩
theorem aA.drop{ρ:aw}:∀(n:Nat) {x:List AV} {v:List Value},aA ρ x v->aA ρ (x.drop n) (v.drop n)
 |0,_,_,k=>by simpa using k
 |n+1,[],_,k=>by simp only[aA] at k;subst k;simp[aA]
 |n+1,x::xs,_,k=>by simp only[aA] at k;obtain⟨y,ys,rfl,r,s⟩:=k;simpa using aA.drop n s
def qi:AV:=.tuple []
theorem VR.undef(ρ:aw):VR ρ qi Go.undef:=by simp only[qi,Go.undef,VR,aA];exact⟨#[],rfl,rfl⟩
def AV.cells:AV->List AV
 | .agg l=>l
 |v=>[v]
theorem VR.cells{ρ:aw}{x:AV}(h:VR ρ x v):aA ρ x.cells v.cells.toList:=by
 cases x<;>(try (simp only[VR] at h;subst h;simp only[AV.cells,Value.cells,aA,VR];exact⟨_,_,rfl,rfl,rfl⟩))
 case ptr a=>
  cases a with
  |none=>simp only[VR] at h;subst h;simp only[AV.cells,Value.cells,aA,VR];exact⟨_,_,rfl,rfl,rfl⟩
  |some a=>obtain⟨n,o⟩:=a;have h':=h;simp only[VR] at h';obtain⟨b,N,_,rfl⟩:=h';simp only[AV.cells,Value.cells,aA];exact⟨_,_,rfl,h,rfl⟩
 case slice a len cap=>
  have:∃p q r,v= .slice p q r:=by
   cases a with
   |none=>cases cap<;>simp only[VR] at h;exact⟨_,_,_,h.1⟩
   |some a=>
    obtain⟨n,o⟩:=a;cases cap<;>simp only[VR] at h
    ·obtain⟨b,N,_,rfl⟩:=h;exact⟨_,_,_,rfl⟩
    ·obtain⟨b,N,c,_,rfl,_⟩:=h;exact⟨_,_,_,rfl⟩
    ·obtain⟨_,b,N,p,c,_,rfl⟩:=h;exact⟨_,_,_,rfl⟩
  obtain⟨p,q,r,rfl⟩:=this;simp only[AV.cells,Value.cells,aA];exact⟨_,_,rfl,h,rfl⟩
 case U n o len=>
  have h':=h;simp only[VR] at h';rcases h' with⟨_,_,_,_,rfl,_⟩|⟨b,sh,c,_,rfl,_⟩<;>
  (simp only[AV.cells,Value.cells,aA];exact⟨_,_,rfl,h,rfl⟩)
 case pC n o=>have h':=h;simp only[VR] at h';obtain⟨b,sh,_,rfl⟩:=h';simp only[AV.cells,Value.cells,aA];exact⟨_,_,rfl,h,rfl⟩
 case map a=>
  cases a with
  |none=>simp only[VR] at h;subst h;simp only[AV.cells,Value.cells,aA,VR];exact⟨_,_,rfl,rfl,rfl⟩
  |some a=>have h':=h;simp only[VR] at h';obtain⟨b,N,_,rfl⟩:=h';simp only[AV.cells,Value.cells,aA];exact⟨_,_,rfl,h,rfl⟩
 case func fn f c=>have h':=h;simp only[VR] at h';obtain⟨_,_,_,rfl,_⟩:=h';simp only[AV.cells,Value.cells,aA];exact⟨_,_,rfl,h,rfl⟩
 case yield l=>have h':=h;simp only[VR] at h';obtain⟨_,_,_,rfl⟩:=h';simp only[AV.cells,Value.cells,aA];exact⟨_,_,rfl,h,rfl⟩
 case iface t x=>have h':=h;simp only[VR] at h';obtain⟨_,rfl,_⟩:=h';simp only[AV.cells,Value.cells,aA];exact⟨_,_,rfl,h,rfl⟩
 case agg l=>simp only[VR] at h;obtain⟨a,rfl,k⟩:=h;simpa only[AV.cells,Value.cells] using k
 case tuple l=>have h':=h;simp only[VR] at h';obtain⟨_,rfl,_⟩:=h';simp only[AV.cells,Value.cells,aA];exact⟨_,_,rfl,h,rfl⟩
def AV.cf:AV->Bool
 | .agg _| .tuple _=>false
 |_=>true
theorem VR.cf{ρ:aw}{x:AV}(h:VR ρ x v)(hx:x.cf=true):∀cs,v≠ .agg cs/\v≠ .tuple cs:=by
 intro cs;cases x<;>(try (simp only[VR] at h;subst h;simp;done))<;>(try (simp[AV.cf] at hx;done))
 case ptr a=>
  cases a with
  |none=>simp only[VR] at h;subst h;simp
  |some a=>obtain⟨n,o⟩:=a;simp only[VR] at h;obtain⟨_,_,_,rfl⟩:=h;simp
 case slice a len cap=>
  cases a with
  |none=>cases cap<;>simp only[VR] at h;rw[h.1];simp
  |some a=>
   obtain⟨n,o⟩:=a;cases cap<;>simp only[VR] at h
   ·obtain⟨_,_,_,rfl⟩:=h;simp
   ·obtain⟨_,_,_,_,rfl,_⟩:=h;simp
   ·obtain⟨_,_,_,_,_,_,rfl⟩:=h;simp
 case U n o len=>simp only[VR] at h;rcases h with⟨_,_,_,_,rfl,_⟩|⟨_,_,_,_,rfl,_⟩<;>simp
 case pC n o=>simp only[VR] at h;obtain⟨_,_,_,rfl⟩:=h;simp
 case map a=>
  cases a with
  |none=>simp only[VR] at h;subst h;simp
  |some a=>simp only[VR] at h;obtain⟨_,_,_,rfl⟩:=h;simp
 case func fn f c=>simp only[VR] at h;obtain⟨_,_,_,rfl,_⟩:=h;simp
 case yield l=>simp only[VR] at h;obtain⟨_,_,_,rfl⟩:=h;simp
 case iface t x=>simp only[VR] at h;obtain⟨_,rfl,_⟩:=h;simp
inductive ab where
 |cells (n:Nat) (t:Tr AV) (z:List AV)
 |map (es:List<|AV×AV) (ay:Nat)
 |jN (es:List<|AV×AV)
 |loop (st:LoopState) (bR:Option Code) (fn:FuncId) (tmps:Tr AV) (nt:Nat) (params:List Tmp) (assign body:Code) (defers:Nat)
 |defs
 |ro (n:Nat) (t:Tr AV)
 |tF (n:Nat) (t:Tr AV)
 |FL (s:ByteArray) (pos:Nat)
 |iter (m:Nat) (es:List<|AV×AV) (exact:Bool) (left:List<|AV×AV) (cur:Option<|AV×AV)
 |ku
 |tok (k:Nat) (v:AV)
 deriving Inhabited
noncomputable def cellAt(t:Tr AV)(z:List AV)(i:Nat):Option AV:=
 match t.get i with
 |some v=>some v
 |none=>z[i % z.length]?
def ab.dm:ab->Bool
 | .ro _ _=>true
 | .tF _ _=>true
 | .tok _ _=>true
 |_=>false
def ab.mL:ab->Bool
 | .ro _ _=>true
 | .tF _ _=>true
 |_=>false
theorem ab.jY:∀{o:ab},o.mL=true->o.dm=true
 | .ro _ _,_=>rfl
 | .tF _ _,_=>rfl
 | .cells _ _ _,h=>by cases h
 | .map _ _,h=>by cases h
 | .jN _,h=>by cases h
 | .loop _ _ _ _ _ _ _ _ _,h=>by cases h
 | .defs,h=>by cases h
 | .FL _ _,h=>by cases h
 | .iter _ _ _ _ _,h=>by cases h
 | .ku,h=>by cases h
 | .tok _ _,h=>by cases h
def TR(ρ:aw)(nt:Nat)(t:Tr AV)(a:Array Value):Prop:=a.size=nt/\∀i x,t.get i=some x->VR ρ x (a.getD i Go.undef)
theorem TR.mono{ρ σ:aw}(h:ρ.le σ){t:Tr AV}(k:TR ρ nt t a):TR σ nt t a:=⟨k.1,fun i x e=>VR.mono h _ _<|k.2 i x e⟩
theorem TR.set{ρ:aw}{t:Tr AV}(k:TR ρ nt t a){d:Nat}{x:AV}(hd:d<nt)(ht:nt<=top)(h:VR ρ x v):
 TR ρ nt (t.put d<|some x) (a.setIfInBounds d v):=by
 refine⟨by simp[k.1],fun i y hy=>?_⟩;rw[Tr.lM _ _ _ _ aj] at hy;by_cases e:i=d
 ·subst e;have:(a.setIfInBounds i v).getD i Go.undef=v:=by rw[Array.getD_eq_getD_getElem?,Array.getElem?_setIfInBounds_self_of_lt (by rw[k.1];exact hd)];rfl
  rw[if_pos rfl] at hy;injection hy with hy;subst hy
  rw[this];exact h
 ·have:(a.setIfInBounds d v).getD i Go.undef=a.getD i Go.undef:=by rw[Array.getD_eq_getD_getElem?,Array.getElem?_setIfInBounds_ne aj, ←Array.getD_eq_getD_getElem?]
  rw[if_neg e] at hy;rw[this];exact k.2 i y hy
def kz(ρ:aw):List (AV×AV)->List MapEntry->Nat->Prop
 |[],l,_=>l=[]
 |x::xs,l,i=>∃e es,l=e::es/\VR ρ x.1 e.key/\VR ρ x.2 e.val/\e.born=i/\kz ρ xs es (i+1)
theorem kz.mono{ρ σ:aw}(h:ρ.le σ):∀(x:List<|AV×AV) (l:List MapEntry) (i:Nat),kz ρ x l i->kz σ x l i
 |[],_,_,k=>k
 |x::xs,_,i,k=>by obtain⟨e,es,r,a,b,c,d⟩:=k;exact⟨e,es,r,VR.mono h _ _ a,VR.mono h _ _ b,c,kz.mono h xs es _ d⟩
def dV(ρ:aw):List (AV×AV)->List MapEntry->Prop
 |[],l=>l=[]
 |x::xs,l=>∃e es,l=e::es/\VR ρ x.1 e.key/\VR ρ x.2 e.val/\dV ρ xs es
theorem dV.mono{ρ σ:aw}(h:ρ.le σ):∀(x:List<|AV×AV) (l:List MapEntry),dV ρ x l->dV σ x l
 |[],_,k=>k
 |x::xs,_,k=>by obtain⟨e,es,r,a,b,d⟩:=k;exact⟨e,es,r,VR.mono h _ _ a,VR.mono h _ _ b,dV.mono h xs es d⟩
theorem kz.eqs{ρ:aw}:∀{x:List<|AV×AV} {l:List MapEntry} {i:Nat},kz ρ x l i->dV ρ x l
 |[],_,_,k=>k
 |_::_,_,_,k=>by obtain⟨e,es,r,a,b,_,d⟩:=k;exact⟨e,es,r,a,b,d.eqs⟩
def vY(ρ:aw)(es:List<|AV×AV)(l:List MapEntry):Prop:=∃l',l.Perm l'/\dV ρ es l'
theorem vY.mono{ρ σ:aw}(h:ρ.le σ){x:List<|AV×AV}{l:List MapEntry}(k:vY ρ x l):vY σ x l:=by obtain⟨l',p,n⟩:=k;exact⟨l',p,n.mono h⟩
def sameKey:AV->AV->Option Bool
 | .int k a,.int k' b=>match decide (k=k') with
  |true=>some<|a == b
  |false=>none
 | .str a,.str b=>some<|a == b
 | .bool a,.bool b=>some<|a == b
 |_,_=>none
def ll(es:List<|AV×AV):Prop:=es.Pairwise fun a b=>sameKey a.1 b.1=some false/\sameKey b.1 a.1=some false
def s9(l:List MapEntry)(ay:Nat):Prop:=(l.map (·.born)).Nodup/\∀e∈l,e.born<ay
def OR(ρ:aw)(N:Nat):ab->Obj->Prop
 | .cells n t z,o=>∃c e,o= .cells c e (0,0)/\c.size=N/\n<=N/\∀i,i<n->∃x v,cellAt t z i=some x/\x.cf=true/\c[i]? =some v/\VR ρ x v
 | .map es ay,o=>∃l,o= .map l ay/\ay=es.length/\kz ρ es l.toList 0
 | .jN es,o=>∃l ay,o= .map l ay/\ll es/\s9 l.toList ay/\vY ρ es l.toList
 | .loop st bR fn tmps nt params assign body defers,o=>∃a b M,o= .loop {state:=st,pending:=bR,fn,tmps:=a,params:=params.toArray,assign,body,defers:=b}/\TR ρ nt tmps a/\nt<=top/\ρ defers=some (b,M)/\FW bR assign body
 | .defs,o=>o= .deferred (some [])
 | .ro n t,o=>∃c e fr,o= .cells c e fr/\c.size=N/\n=N/\∀i,i<n->∃x v,t.get i=some x/\x.cf=true/\c[i]? =some v/\VR ρ x v
 | .tF n t,o=>∃c e fr,o= .cells c e fr/\∀i,i<n->∃x v,t.get i=some x/\x.cf=true/\c[N+i]? =some v/\VR ρ x v
 | .FL s pos,o=>o= .stringIter s pos
 | .iter m _ _ _ _,o=>∃b M c s,ρ m=some (b,M)/\o= .mapIter (some b) c s c
 | .ku,o=>∃l ay,o= .map l ay
 | .tok _ _,_=>True
theorem OR.mono{ρ σ:aw}(h:ρ.le σ){N:Nat}{x:ab}{o:Obj}(k:OR ρ N x o):OR σ N x o:=by
 cases x<;>simp only[OR] at k ⊢
 case cells n t z=>obtain⟨c,e,r,s,u,f⟩:=k;exact⟨c,e,r,s,u,fun i hi=>let ⟨x,v,a,b,d,q⟩:=f i hi;⟨x,v,a,b,d,VR.mono h _ _ q⟩⟩
 case map es ay=>obtain⟨l,r,c,s⟩:=k;exact⟨l,r,c,kz.mono h _ _ _ s⟩
 case jN es=>obtain⟨l,c,r,a,b,s⟩:=k;exact⟨l,c,r,a,b,s.mono h⟩
 case loop st bR fn tmps nt params assign body defers=>obtain⟨a,b,M,r,s,q,u,v⟩:=k;exact⟨a,b,M,r,s.mono h,q,h _ _ u,v⟩
 case defs=>exact k
 case ro n t=>obtain⟨c,e,q,r,s,u,f⟩:=k;exact⟨c,e,q,r,s,u,fun i hi=>let ⟨x,v,a,b,d,q⟩:=f i hi;⟨x,v,a,b,d,VR.mono h _ _ q⟩⟩
 case tF n t=>obtain⟨c,e,q,r,f⟩:=k;exact⟨c,e,q,r,fun i hi=>let ⟨x,v,a,b,d,q⟩:=f i hi;⟨x,v,a,b,d,VR.mono h _ _ q⟩⟩
 case FL s pos=>exact k
 case iter m es ex left cur=>obtain⟨b,M,c,s,r,q⟩:=k;exact⟨b,M,c,s,h _ _ r,q⟩
 case ku=>exact k
def oH(ρ:aw)(w:World)(n m:Nat)(es:List<|AV×AV)(exact:Bool)(left:List<|AV×AV)(cur:Option<|AV×AV):Prop:=
 ∃b N bm M l ay seen,ρ n=some (b,N)/\ρ m=some (bm,M)/\w.heap[b]? =some (.mapIter (some bm) ay seen ay)/\w.heap[bm]? =some (.map l ay)/\
  s9 l.toList ay/\(exact=true->ay=es.length/\kz ρ es l.toList 0)/\(exact=false->ll es/\vY ρ es l.toList)/\
  vY ρ left (l.toList.filter fun e=> !seen.contains e.born)/\
  (match cur with
  |none=>seen= #[]
  |some x=>∃e,e∈l.toList/\seen.back?=some e.born/\VR ρ x.1 e.key/\VR ρ x.2 e.val)
theorem oH.mono{ρ σ:aw}(h:ρ.le σ){m:Nat}{es:List<|AV×AV}{ex:Bool}{left:List<|AV×AV}{cur:Option<|AV×AV}(k:oH ρ w n m es ex left cur):oH σ w n m es ex left cur:=by
 obtain⟨b,N,bm,M,l,ay,seen,h1,h2,h3,h4,h5,h6,h7,h8,h9⟩:=k;refine⟨b,N,bm,M,l,ay,seen,h _ _ h1,h _ _ h2,h3,h4,h5,fun e=>⟨(h6 e).1,(h6 e).2.mono h⟩,fun e=>⟨(h7 e).1,(h7 e).2.mono h⟩,h8.mono h,?_⟩;cases cur with
 |none=>exact h9
 |some x=>obtain⟨e,a,b,c,d⟩:=h9;exact⟨e,a,b,VR.mono h _ _ c,VR.mono h _ _ d⟩
structure aL where
 may:Nat->Prop
 F:Nat->Option (List AV)
 dz:Nat->Prop
 inv:Nat->AV->aw->World->Nat->(Nat->Prop)->Prop
 dA:Nat
 mono:∀{k v ρ σ w w' b H},inv k v ρ w b H->(∀m x,top<=m->ρ m=some x->σ m=some x)->(∀x,H x->w'.heap[x]? =w.heap[x]?)->inv k v σ w' b H
def ae5(W:World):aL:=⟨fun k=>W.heap.size<=k,fun _=>none,fun _=>True,fun _ _ _ _ _ _=>False,W.heap.size,fun h _ _=>h⟩
def jU(ρ:aw)(h:Tr ab)(b:Nat):Prop:=∀m o N,m<top->h.get m=some o->o.dm=false->ρ m≠some (b,N)
def gi(ρ:aw):aw:=fun k=>if top<=k then ρ k else none
theorem FX(ρ:aw):(gi ρ).le ρ:=by
 intro k x e;unfold gi at e;split at e
 ·exact e
 ·cases e
theorem Fu{ρ σ:aw}(h:ρ.le σ):(gi ρ).le<|gi σ:=by
 intro k x e;unfold gi at e ⊢;split at e
 ·rename_i q;rw[if_pos q];exact h _ _ e
 ·cases e
def Fz(B:aL)(ρ:aw)(h:Tr ab)(w:World):Prop:=∀n b sh,ρ (hn n b sh)≠none->(B.dz (hn n b sh)\/B.may b)/\∃l c e fr,B.F n=some l/\w.heap[b]? =some (.cells c e fr)/\jU ρ h b/\∀i x,l[i]? =some x->∃v,c[sh+i]? =some v/\VR (gi ρ) x v/\x.cf=true
def uj(B:aL)(ρ:aw)(h:Tr ab)(w:World):Prop:=(B.dA<=w.heap.size/\∀m o,m<top->h.get m=some o->o.mL=true->∃b N,ρ m=some (b,N)/\b<B.dA)/\∃H:Nat->Nat->Prop,(∀n k v,n<top->h.get n=some (.tok k v)->∃b N,ρ n=some (b,N)/\B.inv k v ρ w b (H n)/\H n b/\∀x,H n x->(x<w.heap.size/\B.dA<=x)/\B.may x/\jU ρ h x/\∀j sh,ρ (hn j x sh)=none)/\∀n m x k v k' v',n<top->m<top->h.get n=some (.tok k v)->h.get m=some (.tok k' v')->n≠m->H n x->¬H m x
theorem uj.of{B:aL}{ρ σ:aw}{h h':Tr ab}{w':World}(f:uj B ρ h w)(hl:ρ.le σ)(ht:∀n o,n<top->h'.get n=some o->o.dm=true->h.get n=some o)(hs:w.heap.size<=w'.heap.size)(hw:∀b,b<w.heap.size->jU ρ h b->w'.heap[b]? =w.heap[b]?)(hd:∀b,b<w.heap.size->jU ρ h b->jU σ h' b)(hm:∀j x sh,x<w.heap.size->jU ρ h x->ρ (hn j x sh)=none->σ (hn j x sh)=none):uj B σ h' w':=by
 obtain⟨h0,H,h1,h2⟩:=f;refine⟨⟨Nat.le_trans h0.1 hs,fun m o eg hg hf=>?_⟩,H,fun n k v hn hg=>?_,fun n m x k v k' v' hn eg g1 g2=>h2 n m x k v k' v' hn eg (ht _ _ hn g1 rfl)<|ht _ _ eg g2 rfl⟩
 ·obtain⟨b,N,e1,e2⟩:=h0.2 m o eg (ht _ _ eg hg<|ab.jY hf) hf;exact⟨b,N,hl _ _ e1,e2⟩
 obtain⟨b,N,a1,a2,a3,a4⟩:=h1 n k v hn<|ht _ _ hn hg rfl;refine⟨b,N,hl _ _ a1,B.mono a2 (fun m x _ e=>hl _ _ e) fun x hx=>?_,a3,fun x hx=>?_⟩
 ·obtain⟨⟨c1,_⟩,_,c3,_⟩:=a4 x hx;exact hw x c1 c3
 ·obtain⟨⟨c1,cl⟩,c2,c3,c4⟩:=a4 x hx;exact⟨⟨Nat.lt_of_lt_of_le c1 hs,cl⟩,c2,hd x c1 c3,fun j sh=>hm j x sh c1 c3<|c4 j sh⟩
theorem uj.no{B:aL}{ρ:aw}{h:Tr ab}(hn:∀n k v,n<top->h.get n=some (.tok k v)->False)(hl:B.dA<=w.heap.size/\∀m o,m<top->h.get m=some o->o.mL=true->∃b N,ρ m=some (b,N)/\b<B.dA):uj B ρ h w:=⟨hl,fun _ _=>False,fun n k v ht hg=>(hn n k v ht hg).elim,fun n _ _ k v _ _ ht _ hg _ _ _=>(hn n k v ht hg).elim⟩
structure Rel (B:aL) (ρ:aw) (h:Tr ab) (w:World):Prop where
 is:∀n o,n<top->h.get n=some o->∃b N o',ρ n=some (b,N)/\w.heap[b]? =some o'/\OR ρ N o o'/\(o.dm=false->B.may b)
 one:∀n m o p b N M,n<top->m<top->h.get n=some o->h.get m=some p->(o.dm=false\/p.dm=false)->ρ n=some (b,N)->ρ m=some (b,M)->n=m
 iter:∀n m es ex left cur,n<top->h.get n=some (.iter m es ex left cur)->m<top/\h.get m=some .ku/\oH ρ w n m es ex left cur
 size:∀k,w.heap.size<=k->B.may k
 lone:∀i j m es ex left cur hI jr iR iU,i<top->j<top->h.get i=some (.iter m es ex left cur)->h.get j=some (.iter m hI jr iR iU)->i=j
 fz:Fz B ρ h w
 tk:uj B ρ h w
end Go.Rn
namespace Go.Rn
variable {α β:Type}
structure AS where
 h:Tr ab
 nx:Nat
 mark:Nat
 rd:List Nat
 wr:List Nat
inductive R (α:Type) where
 |bad
 |ok (a:α) (s:AS)
def M(α:Type):Type:=AS->R α
noncomputable def M.pure(a:α):M α:=fun s=>.ok a s
noncomputable def M.bind(m:M α)(f:α->M β):M β:=fun s=> @R.rec α (fun _=>R β) .bad (fun a s1=>f a s1)<|m s
noncomputable instance:Monad M where
 pure:=M.pure
 bind:=M.bind
noncomputable def fail:M α:=fun _=>.bad
noncomputable def lift(o:Option α):M α:=fun s=> @Option.rec α (fun _=>R α) .bad (fun a=>.ok a s) o
noncomputable def aC(o:Option α)(f:α->M β):M β:=fun s=> @Option.rec α (fun _=>R β) .bad (fun a=>f a s) o
noncomputable def mM(b:Bool):M Unit:=fun s=> @Bool.rec (fun _=>R Unit) .bad (.ok () s) b
noncomputable def aH(b:Bool)(m:M β):M β:=fun s=> @Bool.rec (fun _=>R β) .bad (m s) b
noncomputable def forced(n:Nat)(k:Nat->α):α:= @Nat.rec (fun _=>α) (k 0) (fun m _=>k<|m+1) n
theorem yH(n:Nat)(k:Nat->α):forced n k=k n:=by cases n<;>rfl
noncomputable def bq(n:Nat):M ab:=fun s=>
 @AS.rec (fun _=>R ab) (fun h nx mark rd wr=>
  @Bool.rec (fun _=>R ab) .bad
   (@Option.rec ab (fun _=>R ab) .bad
    (fun o=> @Bool.rec (fun _=>R ab) (.ok o ⟨h,nx,mark,rd,wr⟩) (.ok o ⟨h,nx,mark,n::rd,wr⟩)<|Nat.blt n mark)
    (h.get n))
   (Nat.blt n nx)) s
noncomputable def bN(n:Nat)(o:Option ab):M Unit:=fun s=>
 @AS.rec (fun _=>R Unit) (fun h nx mark rd wr=>
  @Bool.rec (fun _=>R Unit) .bad
   (@Option.rec ab (fun _=>R Unit) .bad
    (fun p=> @Bool.rec (fun _=>R Unit)
     (@Bool.rec (fun _=>R Unit) (.ok () ⟨h.put n o,nx,mark,rd,wr⟩) (.ok () ⟨h.put n o,nx,mark,n::rd,n::wr⟩)<|Nat.blt n mark)
     .bad p.dm)
    (h.get n))
   (and (Nat.blt n nx)<|Nat.blt n top)) s
noncomputable def fu(o:ab):M Nat:=fun s=> @AS.rec (fun _=>R Nat) (fun h nx mark rd wr=> @Bool.rec (fun _=>R Nat) .bad (forced nx fun m=>.ok m ⟨h.put m<|some o,m+1,mark,rd,wr⟩)<|Nat.blt nx top) s
end Go.Rn
namespace Go.Rn
noncomputable section
def FY:Value->Option AV
 | .bool b=>some<|.bool b
 | .int k n=>some<|.int k n
 | .string s=>some<|.str s
 | .pointer none=>some<|.ptr none
 | .slice none len cap=>match Nat.beq len 0&&Nat.beq cap 0 with
  |true=>some<|.slice none 0<|.known 0
  |false=>none
 | .map none=>some<|.map none
 | .nilFunc=>some .nilFunc
 | .nilIface=>some .nilIface
 |_=>none
def wZ:List Value->Option (List AV)
 |[]=>some []
 |v::l=>match FY v with
  |none=>none
  |some x=>match wZ l with
   |none=>none
   |some r=>some<|x::r
def ofValue:Value->Option AV
 | .agg cs=>match wZ cs.toList with
  |none=>none
  |some l=>some<|.agg l
 | .tuple cs=>match wZ cs.toList with
  |none=>none
  |some l=>some<|.tuple l
 |v=>FY v
def fM:Nat:=256
def aI(t:Tr AV)(x:Operand):Option AV:= @Operand.rec (fun _=>Option AV) (fun i=>t.get i) (fun v=>ofValue v) (fun g=> @Bool.rec (fun _=>Option AV) none (some<|.ptr<|some (g,0))<|Nat.blt g fM) (fun f=>some<|.func (.func f) [] []) x
def eF(P:Program)(t:TypeId):Option Nat:=
 match P.info? t with
 |none=>none
 |some i=>some i.size
def qp(P:Program)(t:TypeId):Option AV:=
 match P.info? t with
 |none=>none
 |some i=>match i.zero with
  |none=>none
  |some v=>ofValue v
def qB(P:Program)(t:TypeId):Option Bool:=
 match P.underlying t with
 |some (.struct _)=>some true
 |some (.array _ _)=>some true
 |some _=>some false
 |none=>none
def lp(t:Tr AV)(z:List AV):Nat->Nat->Option (List AV)
 |0,_=>some []
 |k+1,off=>match cellAt t z off with
  |none=>none
  |some v=>match lp t z k (off+1) with
   |none=>none
   |some l=>some<|v::l
def jd(n off:Nat):Nat->M (List AV)
 |0=>M.pure []
 |k+1=>(bq n).bind fun o=>match o with
  | .cells m t z=>aH (Nat.ble (off+(k+1)) m) <| lift<|lp t z (k+1) off
  | .ro m t=>aH (Nat.ble (off+(k+1)) m) <| lift<|lp t [] (k+1) off
  |_=>fail
def qX(n off:Nat)(l:List AV):M Unit:=
  match l with
  |[]=>M.pure ()
  | x ::r=>(bq n).bind fun o=>match o with
    | .cells m t z=>aH (and (Nat.ble (off+(r.length+1)) m)<|and (Nat.ble m top)<|(x::r).all AV.cf) <|
      bN n (some<|.cells m (Tr.fill (x::r) off t) z)
    |_=>fail
def newRow(l:List AV):M Nat:=aH (and (Nat.ble l.length top)<|l.all AV.cf) <| fu<|.cells l.length (Tr.fill l 0 .nil) []
def one:List AV->Option AV
 |[v]=>some v
 |_=>none
def loadVar(P:Program)(t:TypeId)(n off:Nat):M AV:=
 aC (qB P t) fun ag=>match ag with
  |true=>aC (eF P t) fun k=>(jd n off k).bind fun l=>M.pure<|.agg l
  |false=>(jd n off 1).bind fun l=>lift<|one l
def storeVar(P:Program)(t:TypeId)(n off:Nat)(v:AV):M Unit:=aC (eF P t) fun k=>aH (Nat.beq v.cells.length k) <| qX n off v.cells
def addrOf:AV->Option (Nat×Nat)
 | .ptr (some a)=>some a
 |_=>none
def intOf:AV->Option Int
 | .int _ n=>some n
 |_=>none
def xf:AV->Option Bool
 | .bool b=>some b
 |_=>none
def vj(P:Program)(t:TypeId)(cs:List AV)(off:Nat):Option AV:=
 match qB P t with
 |none=>none
 |some true=>match eF P t with
  |none=>none
  |some k=>some<|.agg<|(cs.drop off).take k
 |some false=>cs[off]?
def Fv:List AV->List AV->Nat->List AV
 |cs,[],_=>cs
 |cs,c::l,off=>Fv (cs.set off c) l<|off+1
def xg(place:Nat->Option (Nat×Nat)):List AV->List (Nat×AV)->Option (List AV)
 |cells,[]=>some cells
 |cells,(i,v)::rest=>match place i with
  |none=>none
  |some (off,size)=>
   match Nat.beq v.cells.length size&&Nat.ble (off+v.cells.length) cells.length with
   |false=>none
   |true=>xg place (Fv cells v.cells off) rest
def jP(ev:Operand->Option AV):List Operand->Option (List AV)
 |[]=>some []
 |x::l=>match ev x with
  |none=>none
  |some v=>match jP ev l with
   |none=>none
   |some r=>some<|v::r
def vp(ev:Operand->Option AV):List (Nat×Operand)->Option (List<|Nat×AV)
 |[]=>some []
 |(i,x)::l=>match ev x with
  |none=>none
  |some v=>match vp ev l with
   |none=>none
   |some r=>some<|(i,v)::r
def AO(P:Program):List Field->Option (List<|Nat×Nat)
 |[]=>some []
 |f::l=>match eF P f.type with
  |none=>none
  |some k=>match AO P l with
   |none=>none
   |some r=>some<|(f.offset,k)::r
def build(P:Program)(t:TypeId)(parts:List<|Nat×AV):Option AV:=
 match qp P t with
 |none=>none
 |some z=>match P.underlying t with
  |some (.struct fs)=>match AO P fs.toList with
   |none=>none
   |some pl=>match xg (fun i=>pl[i]?) z.cells parts with
    |none=>none
    |some l=>some<|.agg l
  |some (.array _ e)=>match eF P e with
   |none=>none
   |some k=>match xg (fun i=>some (i*k,k)) z.cells parts with
    |none=>none
    |some l=>some<|.agg l
  |_=>none
def Fw:Nat->List AV->List AV
 |0,_=>[]
 |n+1,z=>z++Fw n z
def buildSlice(P:Program)(t:TypeId)(len:Nat)(parts:List<|Nat×AV):M AV:=do
  match P.underlying t with
  | some (.slice e)=>do
    let k ←lift (eF P e)
    let z ←lift (qp P e)
    mM (Nat.ble (len*k) 1048576&&Nat.beq z.cells.length k)
    let l ←lift (xg (fun i=>some (i*k,k)) (Fw len z.cells) parts)
    let r ←newRow l
    pure (.slice (some (r,0)) len<|.known len)
  |_=>fail
def fieldAddr(P:Program)(s:TypeId)(x:AV)(field:Nat):Option AV:=
 match P.underlying s with
 |some (.struct fs)=>match fs[field]? with
  |none=>none
  |some f=>match eF P f.type with
   |none=>none
   |some k=>match Nat.beq k 0 with
    |true=>none
    |false=>match x with
     | .ptr (some (n,o))=>some<|.ptr<|some (n,o+f.offset)
     | .pC n o=>some<|.pC n<|o+f.offset
     |_=>none
 |_=>none
def Uv(P:Program)(s:TypeId)(x:AV)(field:Nat):Option AV:=
 match P.underlying s,x with
 |some (.struct fs),.agg cs=>match fs[field]? with
  |none=>none
  |some f=>vj P f.type cs f.offset
 |_,_=>none
def within(i:Int)(len:Nat):Option Nat:=
 match i with
 | .ofNat n=>match Nat.blt n len with
  |true=>some n
  |false=>none
 | .negSucc _=>none
def indexAddr(P:Program)(t:TypeId)(x ix:AV):Option AV:=
 match intOf ix with
 |none=>none
 |some i=>match P.underlying t,x with
  |some (.array len e),.ptr (some (n,o))=>match within i len,eF P e with
   |some j,some k=>some<|.ptr<|some (n,o+j*k)
   |_,_=>none
  |some (.slice e),.slice (some (n,o)) len _=>match within i len,eF P e with
   |some j,some k=>some<|.ptr<|some (n,o+j*k)
   |_,_=>none
  |some (.slice e),.U n o len=>match within i len,eF P e with
   |some j,some k=>some<|.pC n<|o+j*k
   |_,_=>none
  |_,_=>none
def indexOf(P:Program)(t:TypeId)(x ix:AV):Option AV:=
 match intOf ix with
 |none=>none
 |some i=>match P.underlying t,x with
  |some (.array len e),.agg cs=>match within i len,eF P e with
   |some j,some k=>vj P e cs<|j*k
   |_,_=>none
  |_,_=>none
def bound(x:Option AV)(tU ain:Nat):Option Nat:=
 match x with
 |none=>some ain
 |some v=>match intOf v with
  |none=>none
  |some i=>within i<|tU+1
def opt(ev:Operand->Option AV):Option Operand->Option (Option AV)
 |none=>some none
 |some x=>match ev x with
  |none=>none
  |some v=>some<|some v
def iP(len:Nat)(c:cC):Nat:=
 match c with
 | .known c=>c
 | .aq lo _=>lo
 | .lost=>len
def slice3(k:Nat)(a:Option<|Nat×Nat)(low:Nat)(lo hi:Option AV)(mx:AV):Option AV:=
 match bound (some mx) low 0 with
 |none=>none
 |some m=>match hi with
  |none=>none
  |some hi=>match bound (some hi) m 0 with
   |none=>none
   |some h=>match bound lo h 0 with
    |none=>none
    |some l=>match a with
     |none=>some<|.slice none (h - l)<|.known<|m - l
     |some (n,o)=>match Nat.beq m l with
      |true=>some<|.slice (some (n,o)) (h - l)<|.known<|m - l
      |false=>some<|.slice (some (n,o+l*k)) (h - l)<|.known<|m - l
def w6(P:Program)(t:TypeId)(x:AV)(lo hi mx:Option AV):Option AV:=
 match P.underlying t,x with
 |some (.slice e),.slice a len cap=>
  match eF P e with
  |none=>none
  |some k=>
   match mx with
   |some mx=>match cap with
    | .lost=>none
    |cap=>slice3 k a (iP len cap) lo hi mx
   |none=>
    match bound hi (iP len cap) len with
    |none=>none
    |some h=>match bound lo h 0 with
     |none=>none
     |some l=>match a,cap with
      |none,.known c=>some<|.slice none (h - l)<|.known<|c - l
      |none,_=>none
      |some (n,o),.known c=>match Nat.beq c l with
       |true=>some<|.slice (some (n,o)) (h - l)<|.known<|c - l
       |false=>some<|.slice (some (n,o+l*k)) (h - l)<|.known<|c - l
      |some (n,o),.aq b e=>match Nat.beq l 0 with
       |true=>some<|.slice (some (n,o)) (h - l)<|.aq b e
       |false=>none
      |some _,.lost=>none
 |some (.array len e),.ptr (some (n,o))=>
  match eF P e with
  |none=>none
  |some k=>match mx with
   |some _=>none
   |none=>match bound hi len len with
    |none=>none
    |some h=>match bound lo h 0 with
     |none=>none
     |some l=>match Nat.beq len l with
      |true=>some<|.slice (some (n,o)) (h - l)<|.known<|len - l
      |false=>some<|.slice (some (n,o+l*k)) (h - l)<|.known<|len - l
 |_,_=>none
def room:Nat:=140737488355328
def makeSlice(P:Program)(t:TypeId)(len cap:AV):M AV:=
 match P.underlying t with
 |some (.slice e)=>
  aC (intOf len) fun l=>aC (intOf cap) fun c=>aC (P.info? e) fun i=>aC (within c room) fun c=>aC (within l<|c+1) fun l=>aC (qp P e) fun z=>
  aH (and (Nat.ble (c*i.bytes) room)<|and (Nat.ble (c*i.size) top)<|and (or (Nat.beq (c*i.size) 0)<|not<|Nat.beq z.cells.length 0)<|z.cells.all AV.cf) <|
  (fu<|.cells (c*i.size) .nil z.cells).bind fun r=>M.pure<|.slice (some (r,0)) l<|.known c
 |_=>fail
def firstCells(size n:Nat):AV->M (List AV)
 | .slice (some _) 0 .lost=>aH (Nat.beq n 0) <| M.pure []
 | .slice (some (m,o)) _ _=>jd m o<|n*size
 | .slice none _ _=>M.pure []
 |_=>fail
def lenOf:AV->Option Nat
 | .slice _ n _=>some n
 |_=>none
def grown(size bytes mX:Nat)(dz new:List AV):M AV:=
 aH (and (Nat.ble (2*mX*bytes+4096*bytes) room)<|not<|Nat.beq bytes 0) <|
 (newRow<|dz++new).bind fun r=>M.pure<|.slice (some (r,0)) mX<|.aq mX size
def wN(n off:Nat)(l:List AV):M Unit:=
  match l with
  |[]=>M.pure ()
  | x ::r=>(bq n).bind fun o=>match o with
    | .cells m t z=>aH (and (Nat.ble off m)<|and (Nat.ble (max m<|off+(r.length+1)) top)<|(x::r).all AV.cf) <|
      bN n (some<|.cells (max m<|off+(r.length+1)) (Tr.fill (x::r) off t) z)
    |_=>fail
def ab.yL:ab->Bool
 | .cells _ _ _=>true
 |_=>false
def sQ(i:TypeInfo):Bool:=
 match i.zero with
 |none=>false
 |some v=>Nat.beq v.cells.size i.size
def qY(size bytes:Nat)(base:Option<|Nat×Nat)(len:Nat)(cap:cC)(n:Nat)(new:List AV):M AV:=
 match cap with
 | .known c=>match Nat.ble (len+n) c with
  |true=>(match base with
   |some (m,o)=>qX m (o+len*size) new
   |none=>M.pure ()).bind fun _=>M.pure (.slice base (len+n)<|.known c)
  |false=>(firstCells size len<|.slice base len<|.known c).bind fun dz=>grown size bytes (len+n) dz new
 | .aq lo sz=>aH (Nat.beq sz size) <| match Nat.ble (len+n) lo with
  |true=>match base with
   |some (m,o)=>(wN m (o+len*size) new).bind fun _=>M.pure<|.slice (some (m,o)) (len+n)<|.aq lo sz
   |none=>fail
  |false=>match base with
   |some (m,0)=>(jd m 0<|len*size).bind fun dz=>(bq m).bind fun o=>aH o.yL <| (bN m none).bind fun _=>grown size bytes (len+n) dz new
   |_=>fail
 | .lost=>fail
def pj(P:Program)(t:Option TypeId):Bool:=
 match t with
 |none=>true
 |some t=>match P.underlying t with
  |some (.int _)=>false
  |some _=>true
  |none=>false
def ph(P:Program)(argTypes:Array TypeId)(s x:AV):M AV:=
 aC argTypes[0]? fun t=>match P.underlying t,s with
 |some (.slice e),.slice base len cap=>
  aC (P.info? e) fun i=>aH (and (sQ i)<|pj P argTypes[1]?) <| aC (lenOf x) fun n=>(firstCells i.size n x).bind fun new=>
  aH (Nat.beq new.length<|n*i.size) <| qY i.size i.bytes base len cap n new
 |_,_=>fail
def adl:AV->Bool
 | .slice _ _ .lost=>false
 |_=>true
def yW(P:Program)(argTypes:Array TypeId)(d x:AV):M AV:=
 aC argTypes[0]? fun t=>match P.underlying t,d with
 |some (.slice e),.slice base len cap=>
  aC (eF P e) fun k=>aC (lenOf x) fun m=>aH (adl<|.slice base len cap) <| (firstCells k (Nat.min m len) x).bind fun cells=>
  (match base with
  |some (r,o)=>qX r o cells
  |none=>M.pure ()).bind fun _=>M.pure (.int .i64 (Nat.min m len:Nat))
 |_,_=>fail
def eqFields(P:Program)(eq:TypeId->AV->AV->Option Bool)(xs ys:List AV):List Field->Option Bool
 |[]=>some true
 |f::l=>match f.name == "_" with
  |true=>eqFields P eq xs ys l
  |false=>match vj P f.type xs f.offset,vj P f.type ys f.offset with
   |some a,some b=>match eq f.type a b with
    |none=>none
    |some false=>some false
    |some true=>eqFields P eq xs ys l
   |_,_=>none
def PD(n len:Nat):Option Bool:=match len with
 |0=>match Nat.beq n top with
  |true=>some true
  |false=>match Nat.beq n (top+1) with
   |true=>some false
   |false=>none
 |_+1=>some false
def pQ(P:Program):Nat->TypeId->AV->AV->Option Bool
 |0,_,_,_=>none
 |d+1,t,x,y=>
  match P.underlying t,x,y with
  |some .bool,.bool a,.bool b=>some<|a == b
  |some (.int _),.int k a,.int k' b=>match decide (k=k') with
   |true=>some<|a == b
   |false=>none
  |some (.pointer _),.ptr none,.ptr b=>some b.isNone
  |some (.pointer _),.ptr (some _),.ptr none=>some false
  |some (.struct fs),.agg xs,.agg ys=>match P.stoodInHeld t with
   |true=>none
   |false=>eqFields P (pQ P d) xs ys fs.toList
  |some (.slice _),.slice none _ _,.slice b _ _=>some b.isNone
  |some (.slice _),.slice (some _) _ _,.slice none _ _=>some false
  |some (.slice _),.U n _ len,.slice none _ _=>PD n len
  |_,_,_=>none
def isConst:Operand->Bool
 | .const _=>true
 |_=>false
def Mu(P:Program)(t:TypeId)(x y:Operand)(a b:AV):Bool:=
 match a,b with
 | .nilIface,.nilIface=>isConst x||isConst y
 | .agg _,.agg _=> !P.eqGuardType P.depth t
 |_,_=>true
def DE(op:BinOp)(k:IntKind)(a b:Int):Option AV:=
 match op with
 | .add=>some<|.int k<|k.wrap<|a+b
 | .sub=>some<|.int k<|k.wrap<|a - b
 | .mul=>some<|.int k<|k.wrap<|a*b
 | .quo=>match decide (b=0) with
  |true=>none
  |false=>some<|.int k<|k.wrap<|a.tdiv b
 | .rem=>match decide (b=0) with
  |true=>none
  |false=>some<|.int k<|a.tmod b
 | .and=>some<|.int k<|k.wrap (BitVec.ofInt k.bits a&&& BitVec.ofInt k.bits b).toNat
 | .or=>some<|.int k<|k.wrap (BitVec.ofInt k.bits a|||BitVec.ofInt k.bits b).toNat
 | .xor=>some<|.int k<|k.wrap (BitVec.ofInt k.bits a ^^^ BitVec.ofInt k.bits b).toNat
 | .andNot=>some<|.int k<|k.wrap (BitVec.ofInt k.bits a&&& ~~~BitVec.ofInt k.bits b).toNat
 | .eql=>some<|.bool<|a == b
 | .neq=>some<|.bool<|a != b
 | .lss=>some<|.bool<|a<b
 | .leq=>some<|.bool<|a<=b
 | .gtr=>some<|.bool<|a>b
 | .geq=>some<|.bool<|a>=b
 |_=>none
def NO(op:BinOp)(k:IntKind)(x y:Int):Option AV:=
 match decide (y<0) with
 |true=>none
 |false=>match op with
  | .shl=>some<|.int k<|k.wrap<|x*2 ^ min y.toNat k.bits
  | .shr=>some<|.int k<|x.fdiv<|2 ^ min y.toNat k.bits
  |_=>none
def yM:BinOp->Bool
 | .shl| .shr=>true
 |_=>false
def A7(P:Program)(op:BinOp)(t:TypeId)(x y:AV):Option AV:=
 match x,y with
 | .int k a,.int k' b=>match yM op with
  |true=>NO op k a b
  |false=>match decide (k=k') with
   |true=>DE op k a b
   |false=>none
 |x,y=>match op with
  | .eql=>match pQ P Op.maxDepth t x y with
   |none=>none
   |some b=>some<|.bool b
  | .neq=>match pQ P Op.maxDepth t x y with
   |none=>none
   |some b=>some<|.bool !b
  |_=>none
def V6(op:UnOp)(x:AV):Option AV:=
 match op,x with
 | .not,.bool b=>some<|.bool !b
 |_,_=>none
def Ng(P:Program)(src dst:TypeId)(x:AV):Option AV:=
 match P.underlying src,P.underlying dst,x with
 |some _,some (.int k),.int _ n=>some<|.int k<|k.wrap n
 |_,_,_=>none
def plainKey(P:Program)(t:TypeId)(key:AV):Bool:=
 match P.underlying t,key with
 |some (.int _),.int _ _=>true
 |some .string,.str _=>true
 |some .bool,.bool _=>true
 |_,_=>false
def kI(key:AV):List (AV×AV)->Nat->Option (Option<|Nat×AV)
 |[],_=>some none
 |(k,v)::l,i=>match sameKey key k with
  |none=>none
  |some true=>some<|some (i,v)
  |some false=>kI key l<|i+1
def Fx(P:Program)(t:TypeId)(key:AV):List (AV×AV)->Nat->Option (Option<|Nat×AV)
 |[],_=>some none
 |(k,v)::l,i=>match pQ P Op.maxDepth t key k with
  |none=>none
  |some true=>some<|some (i,v)
  |some false=>Fx P t key l<|i+1
def uk:AV->Bool
 | .Ko _=>false
 |_=>true
def findKey(P:Program)(t:TypeId)(key:AV)(es:List<|AV×AV):Option<|Option<|Nat×AV:=
 match uk key with
 |false=>none
 |true=>match plainKey P t key with
  |true=>kI key es 0
  |false=>Fx P t key es 0
def Fh(P:Program)(B2:TypeId->AV->Bool)(cs:List AV):List Field->Bool
 |[]=>true
 |f::l=>match f.name == "_" with
  |true=>Fh P B2 cs l
  |false=>match vj P f.type cs f.offset with
   |none=>false
   |some a=>match B2 f.type a with
    |true=>Fh P B2 cs l
    |false=>false
def oJ(P:Program):Nat->TypeId->AV->Bool
 |0,_,_=>false
 |d+1,t,x=>match P.underlying t,x with
  |some .bool,_=>true
  |some (.int _),_=>true
  |some .string,_=>true
  |some (.struct fs),.agg cs=>Fh P (oJ P d) cs fs.toList
  |_,_=>false
def A8(r:Nat):M<|List<|AV×AV:=do
 match ←bq r with
 | .map es _=>pure es
 | .jN es=>pure es
 |_=>fail
def short:List (AV×AV)->Bool
 |[]=>true
 |[_]=>true
 |_=>false
def yX(P:Program)(k:TypeId)(key x:AV):M<|List<|AV×AV:=
 match x with
 | .map none=>M.pure []
 | .map (some r)=>(bq r).bind fun o=>match o with
  | .map es _=>M.pure es
  | .jN es=>aH (or (plainKey P k key)<|short es) <| M.pure es
  |_=>fail
 |_=>fail
def zV(ok:Bool)(v:AV)(b:Bool):AV:=
 match ok with
 |true=>.tuple [v,.bool b]
 |false=>v
def yN(P:Program)(t:TypeId)(x key:AV)(ok:Bool):M AV:=
 match P.underlying t with
 |some (.map k e)=>(yX P k key x).bind fun es=>aH (oJ P 10000 k key) <| aC (findKey P k key es) fun f=>match f with
  |some q=>M.pure<|zV ok q.2 true
  |none=>aC (qp P e) fun z=>M.pure<|zV ok z false
 |_=>fail
def yO:List AV->List AV->Bool
 |[],[]=>true
 |x::xs,y::ys=>match sameKey x y with
  |some true=>yO xs ys
  |_=>false
 |_,_=>false
def sameBits:AV->AV->Bool
 | .agg xs,.agg ys=>yO xs ys
 |x,y=>match sameKey x y with
  |some true=>true
  |_=>false
def putAt:List (AV×AV)->Nat->AV->AV->List (AV×AV)
 |[],_,_,_=>[]
 |_::l,0,k,v=>(k,v)::l
 |x::l,i+1,k,v=>x::putAt l i k v
def DF(r:Nat)(key val:AV)(es:List<|AV×AV)(ay:Nat)(f:Option<|Nat×AV):M Unit:=
 match f with
 |some q=>aC es[q.1]? fun dz=>aH (sameBits dz.1 key) <| bN r<|some<|.map (putAt es q.1 key val) ay
 |none=>bN r<|some<|.map (es++[(key,val)])<|ay+1
def AB(r:Nat)(key val:AV)(es:List<|AV×AV)(f:Option<|Nat×AV):M Unit:=
 match f with
 |some q=>bN r<|some<|.jN<|putAt es q.1 key val
 |none=>bN r<|some<|.jN<|es++[(key,val)]
def xh(P:Program)(t:TypeId)(m key val:AV):M Unit:=
 match P.underlying t,m with
 |some (.map k _),.map (some r)=>(bq r).bind fun o=>match o with
  | .map es ay=>aH (oJ P 10000 k key) <| aC (findKey P k key es) fun f=>DF r key val es ay f
  | .jN es=>aH (and (plainKey P k key)<|oJ P 10000 k key) <| aC (findKey P k key es) fun f=>AB r key val es f
  |_=>fail
 |_,_=>fail
def zE(P:Program)(argTypes:Array TypeId)(x:AV):M AV:=do
 let t ←lift argTypes[0]?
 match P.underlying t,x with
 |some (.slice _),.slice _ n _=>pure<|.int .i64 n
 |some (.slice _),.U _ _ n=>pure<|.int .i64 n
 |_,_=>fail
def min2:AV->AV->Option AV
 | .int k x,.int _ y=>some<|.int k (match decide (y<x) with|true=>y|false=>x)
 |_,_=>none
def max2:AV->AV->Option AV
 | .int k x,.int _ y=>some<|.int k (match decide (y>x) with|true=>y|false=>x)
 |_,_=>none
def Dg(f:AV->AV->Option AV):List AV->AV->Option AV
 |[],x=>some x
 |y::l,x=>match f x y with
  |none=>none
  |some z=>Dg f l z
def yI(P:Program)(b:Builtin)(argTypes:Array TypeId)(args:List AV):M AV:=
 match b,args with
 | .len,[x]=>zE P argTypes x
 | .append,[s,x]=>ph P argTypes s x
 | .copy,[d,x]=>yW P argTypes d x
 | .min,x::l=>lift<|Dg min2 l x
 | .max,x::l=>lift<|Dg max2 l x
 |_,_=>fail
inductive Hb where
 |fn (f:FuncId)
 |round (l:Nat)
 |row (n o k:Nat)
def mY(YO:Hb->List AV->M AV)(f:AV)(args:List AV):M AV:=
 match f with
 | .func (.func g) first captured=>YO (.fn g)<|first++args++captured
 | .yield l=>YO (.round l) args
 |_=>fail
abbrev aK:=Hb->List AV->M AV
abbrev gD:=aK->Tr AV->M AV
inductive qK (α:Type) where
 |mk (a:α)
def vq(x:Operand):gD:=fun _ t=>lift<|aI t x
def Bu(c a b:Operand):gD:=fun _ t=>
 aC (aI t c) fun c=>aC (xf c) fun c=>aC (aI t a) fun a=>aC (aI t b) fun b=>
  match c with
  |true=>M.pure a
  |false=>M.pure b
def Jr(P:Program)(e:TypeId):gD:=fun _ _=>aC (qp P e) fun z=>(newRow z.cells).bind fun r=>M.pure<|.ptr<|some (r,0)
def BH(x:Operand):gD:=fun _ t=>aC (aI t x) fun v=>(newRow v.cells).bind fun r=>M.pure<|.ptr<|some (r,0)
def A9(P:Program)(ty:TypeId)(parts:List<|Nat×Operand):gD:=fun _ t=>aC (vp (aI t) parts) fun ps=>lift<|build P ty ps
def Aq(P:Program)(ty:TypeId)(len:Nat)(parts:List<|Nat×Operand):gD:=fun _ t=>aC (vp (aI t) parts) fun ps=>buildSlice P ty len ps
def w7(P:Program)(ty:TypeId)(n o:Nat):M AV:=
 aC (qB P ty) fun ag=>match ag with
  |true=>fail
  |false=>(bq n).bind fun ob=>match ob with
   | .tF m t=>aH (Nat.blt o m) <| lift<|t.get o
   |_=>fail
def uU(P:Program)(ty:TypeId)(YO:aK)(n o:Nat):M AV:=
 aC (qB P ty) fun ag=>aC (eF P ty) fun k=>(YO (.row n o (match ag with|true=>k|false=>1)) []).bind fun v=>match v with
  | .agg l=>match ag with
   |true=>M.pure<|.agg l
   |false=>lift<|one l
  |_=>fail
def loadAt(P:Program)(ty:TypeId)(YO:aK)(a:AV):M AV:=
 match a with
 | .pC n o=>match Nat.ble top n with
  |true=>uU P ty YO n o
  |false=>w7 P ty n o
 |a=>aC (addrOf a) fun a=>loadVar P ty a.1 a.2
def tH(P:Program)(ty:TypeId)(a:Operand):gD:=fun YO t=>aC (aI t a) fun a=>loadAt P ty YO a
def xj(P:Program)(ty:TypeId)(a x:Operand):gD:=fun _ t=>aC (aI t a) fun a=>aC (addrOf a) fun a=>aC (aI t x) fun v=>(storeVar P ty a.1 a.2 v).bind fun _=>M.pure qi
def notNil:AV->Bool
 | .ptr none| .nilIface| .nilFunc=>false
 | .func (.func _) _ _=>true
 | .func _ _ _=>false
 |_=>true
def Av(x:Operand):gD:=fun _ t=>aC (aI t x) fun v=>aH (notNil v) <| M.pure v
def IU(P:Program)(op:BinOp)(t:TypeId)(x y:Operand)(a b:AV):Bool:=
 match op with
 | .eql| .neq=>Mu P t x y a b
 |_=>true
def tV(P:Program)(op:BinOp)(ty:TypeId)(x y:Operand):gD:=fun _ t=>aC (aI t x) fun a=>aC (aI t y) fun b=>aH (IU P op ty x y a b) <| lift<|A7 P op ty a b
def B3(op:UnOp)(x:Operand):gD:=fun _ t=>aC (aI t x) fun a=>lift<|V6 op a
def AD(P:Program)(src dst:TypeId)(x:Operand):gD:=fun _ t=>
 aC (aI t x) fun a=>match a with
  | .slice _ _ _=>fail
  |a=>lift<|Ng P src dst a
def CG(P:Program)(ty:TypeId)(x:Operand):gD:=fun _ _=>fail
def WO:Fn->Bool
 | .func _=>true
 |_=>false
def Aw(fn:Fn)(first captured:List Operand):gD:=fun _ t=>aH (WO fn) <| aC (jP (aI t) first) fun f=>aC (jP (aI t) captured) fun c=>M.pure<|.func fn f c
def J2(P:Program)(t:TypeId):Bool:=
 match P.underlying t with
 |some (.map _ _)=>true
 |_=>false
def AE(P:Program)(ty:TypeId)(r:Option Operand):gD:=fun _ t=>
 (match r with
 |none=>M.pure ()
 |some x=>aC (aI t x) fun v=>aC (intOf v) fun _=>mM<|J2 P ty).bind fun _=>
 (fu<|.map [] 0).bind fun n=>M.pure<|.map<|some n
def As(P:Program)(ty:TypeId)(l c:Operand):gD:=fun _ t=>aC (aI t l) fun l=>aC (aI t c) fun c=>makeSlice P ty l c
def td(P:Program)(ty:TypeId)(x:Operand)(lo hi mx:Option Operand):gD:=fun _ t=>aC (aI t x) fun x=>aC (opt (aI t) lo) fun lo=>aC (opt (aI t) hi) fun hi=>aC (opt (aI t) mx) fun mx=>lift<|w6 P ty x lo hi mx
def Au(P:Program)(s:TypeId)(x:Operand)(f:Nat):gD:=fun _ t=>aC (aI t x) fun x=>lift<|fieldAddr P s x f
def Ba(P:Program)(s:TypeId)(x:Operand)(f:Nat):gD:=fun _ t=>aC (aI t x) fun x=>lift<|Uv P s x f
def p9(P:Program)(ty:TypeId)(x i:Operand):gD:=fun _ t=>aC (aI t x) fun x=>aC (aI t i) fun i=>lift<|indexAddr P ty x i
def Bb(P:Program)(ty:TypeId)(x i:Operand):gD:=fun _ t=>aC (aI t x) fun x=>aC (aI t i) fun i=>lift<|indexOf P ty x i
def w8(P:Program)(ty:TypeId)(x i:Operand)(ok:Bool):gD:=fun _ t=>aC (aI t x) fun x=>aC (aI t i) fun i=>yN P ty x i ok
def qf(P:Program)(ty:TypeId)(m k x:Operand):gD:=fun _ t=>aC (aI t m) fun m=>aC (aI t k) fun k=>aC (aI t x) fun x=>(xh P ty m k x).bind fun _=>M.pure qi
def C5(P:Program)(asserted:TypeId)(ok:Bool)(x:Operand):gD:=fun _ _=>fail
def AP(P:Program)(ty:TypeId)(x:AV):M AV:=
 match P.underlying ty,x with
 |some (.map _ _),.map (some m)=>(bq m).bind fun o=>match o with
  | .map es _=>(bN m<|some .ku).bind fun _=>(fu<|.iter m es true es none).bind fun n=>M.pure<|.ptr<|some (n,0)
  | .jN es=>(bN m<|some .ku).bind fun _=>(fu<|.iter m es false es none).bind fun n=>M.pure<|.ptr<|some (n,0)
  |_=>fail
 |_,_=>fail
def Bc(P:Program)(ty:TypeId)(x:Operand):gD:=fun _ t=>aC (aI t x) fun x=>AP P ty x
def adm(x:AV):M AV:=
 match x with
 | .ptr (some (n,0))=>(bq n).bind fun o=>match o with
  | .FL b pos=>match Nat.blt pos b.size with
   |true=>(bN n<|some<|.FL b<|pos+(Utf8.decode b pos).2).bind fun _=>M.pure<|.tuple [.bool true,.int .i64 pos,.int .i32 (Utf8.decode b pos).1]
   |false=>M.pure<|.tuple [.bool false]
  |_=>fail
 |_=>fail
def CS(x:Operand):gD:=fun _ _=>fail
def C6(x:AV):M AV:=
 match x with
 | .ptr (some (n,0))=>(bq n).bind fun o=>match o with
  | .iter _ _ _ _ (some (k,v))=>M.pure<|.tuple [k,v]
  |_=>fail
 |_=>fail
def Bd(x:Operand):gD:=fun _ t=>aC (aI t x) fun x=>C6 x
def partOf(x:AV)(i:Nat):Option AV:=
 match x with
 | .tuple l=>l[i]?
 |_=>none
def AG(x:Operand)(i:Nat):gD:=fun _ t=>aC (aI t x) fun x=>lift<|partOf x i
def sR(YO:aK)(n o k:Nat):M<|List AV:=match k with
 |0=>M.pure []
 |k=>(YO (.row n o k) []).bind fun x=>match x with
  | .agg l=>aH (Nat.beq l.length k) <| M.pure l
  |_=>fail
def O3(size len:Nat)(cap:cC):Bool:=
 match cap with
 | .known c=>and (Nat.beq c 0)<|Nat.beq len 0
 | .aq _ sz=>Nat.beq sz size
 | .lost=>false
def AQ(P:Program)(YO:aK)(argTypes:Array TypeId)(s:AV)(n o k:Nat):M AV:=
 aH (Nat.ble top n) <| aC argTypes[0]? fun t=>match P.underlying t,s with
 |some (.slice e),.slice (some (m,0)) len cap=>
  aC (P.info? e) fun i=>aH (and (sQ i)<|pj P argTypes[1]?) <| aH (O3 i.size len cap) <|
  (sR YO n o<|k*i.size).bind fun new=>(jd m 0<|len*i.size).bind fun dz=>(bq m).bind fun ob=>aH ob.yL <| (bN m none).bind fun _=>grown i.size i.bytes (len+k) dz new
 |_,_=>fail
def oo(P:Program)(b:Builtin)(argTypes:Array TypeId)(args:List Operand):gD:=fun YO t=>
 aC (jP (aI t) args) fun args=>match b,args with
 | .append,[s,.U n o k]=>AQ P YO argTypes s n o k
 |b,args=>yI P b argTypes args
def tI(f:Operand)(args:List Operand):gD:=fun YO t=>aC (jP (aI t) args) fun args=>aC (aI t f) fun f=>mY YO f args
def NP(P:Program)(recv:Operand)(name:String)(args:List Operand):gD:=fun _ _=>fail
def V7:gD:=fun _ _=>fail
def dI(P:Program)(op:Op):qK gD:=
 match op with
 | .move x=>.mk<|vq x
 | .assign x=>.mk<|vq x
 | .pick c a b=>.mk<|Bu c a b
 | .alloc e=>.mk<|Jr P e
 | .box _ x=>.mk<|BH x
 | .build t parts=>.mk<|A9 P t parts.toList
 | .buildSlice t len parts=>.mk<|Aq P t len parts.toList
 | .load t a=>.mk<|tH P t a
 | .store t a x=>.mk<|xj P t a x
 | .nilCheck x=>.mk<|Av x
 | .binOp op t x y _=>.mk<|tV P op t x y
 | .unOp op _ x=>.mk<|B3 op x
 | .convert src dst x=>.mk<|AD P src dst x
 | .makeInterface t x=>.mk<|CG P t x
 | .makeFunc fn first captured=>.mk<|Aw fn first.toList captured.toList
 | .makeMap t r=>.mk<|AE P t r
 | .makeSlice t l c=>.mk<|As P t l c
 | .slice t x lo hi mx=>.mk<|td P t x lo hi mx
 | .fieldAddr s x f=>.mk<|Au P s x f
 | .field s x f=>.mk<|Ba P s x f
 | .indexAddr t x i=>.mk<|p9 P t x i
 | .index t x i=>.mk<|Bb P t x i
 | .lookup t x i ok=>.mk<|w8 P t x i ok
 | .mapUpdate t m k x=>.mk<|qf P t m k x
 | .insert t m k x=>.mk<|qf P t m k x
 | .typeAssert x _ asserted ok=>.mk<|C5 P asserted ok x
 | .range t x=>.mk<|Bc P t x
 | .entry x=>.mk<|Bd x
 | .next x true=>.mk<|CS x
 | .extract x i=>.mk<|AG x i
 | .call ⟨.builtin b,args,argTypes⟩=>.mk<|oo P b argTypes args.toList
 | .call ⟨.value f,args,_⟩=>.mk<|tI f args.toList
 | .call ⟨.invoke recv name,args,_⟩=>.mk<|NP P recv name args.toList
 |_=>.mk V7
def qK.val{α:Type}(b:qK α):α:= @qK.rec α (fun _=>α) (fun a=>a) b
def Hc(P:Program)(YO:aK)(t:Tr AV)(op:Op):M AV:=(dI P op).val YO t
end
end Go.Rn
namespace Go.Rn
variable {α:Type}
noncomputable section
structure AF where
 fn:FuncId
 tmps:Tr AV
 nt:Nat
 todo:List Item
 defers:List Nat
 round:Option Nat
def ji(nt:Nat)(t:Tr AV)(dst:Option Tmp)(v:AV):Option<|Tr AV:= @Option.rec Tmp (fun _=>Option<|Tr AV) (some t) (fun d=> @Bool.rec (fun _=>Option<|Tr AV) none (some<|t.put d<|some v)<|Nat.blt d nt) dst
def Fy(ops:Array Oper)(t:Tr AV)(j:Nat):Option Bool:=
 match ops[j]? with
 |none=>none
 |some o=>match o.dst with
  |none=>none
  |some d=>match t.get d with
   |some (.bool b)=>some b
   |_=>none
def qg(ops:Array Oper)(g:Nat×Bool)(t:Tr AV):Bool:=
 match Fy ops t g.1 with
 |some b=>b == g.2
 |none=>false
def te(ops:Array Oper)(t:Tr AV)(j:Nat):Bool:=
 match ops[j]? with
 |none=>true
 |some o=>match o.dst with
  |none=>true
  |some d=>(t.get d).isSome
abbrev O4:=aK->Nat->Tr AV->M (Tr AV)
def sb(f:qK gD)(dst:Option Tmp):O4:=fun YO nt t=>(f.val YO t).bind fun v=>lift<|ji nt t dst v
def tJ(ops:Array Oper)(g:Nat×Bool)(f:qK gD)(dst:Option Tmp):O4:=fun YO nt t=>aH (te ops t g.1) <| @Bool.rec (fun _=>M<|Tr AV) (lift<|ji nt t dst qi) ((f.val YO t).bind fun v=>lift<|ji nt t dst v)<|qg ops g t
def Bv(P:Program)(ops:Array Oper)(o:Oper):qK O4:=
 match o.guard with
 |none=>.mk<|sb (dI P o.op) o.dst
 |some g=>.mk<|tJ ops g (dI P o.op) o.dst
def gN(P:Program)(YO:aK)(nt:Nat)(ops:Array Oper)(o:Oper)(t:Tr AV):M<|Tr AV:=(Bv P ops o).val YO nt t
def jj(P:Program)(YO:aK)(nt:Nat)(ops:Array Oper)(l:List Oper):Tr AV->M (Tr AV):= @List.rec Oper (fun _=>Tr AV->M (Tr AV)) (fun t=>M.pure t) (fun o _ ih t=>(gN P YO nt ops o t).bind ih) l
structure dx where
 i:Nat
 rd:List Nat
 wr:List Nat
 lo:Nat
 hi:Nat
def uP(m:Nat)(l:List Nat):List Nat:= @List.rec Nat (fun _=>List Nat) [] (fun x _ ih=> @Bool.rec (fun _=>List Nat) ih (List.cons x ih) (Nat.ble m x |> not)) l
def below(m:Nat)(l:List Nat):List Nat:= @Bool.rec (fun _=>List Nat) (uP m l) []<|Nat.beq m 0
def alone(i:Nat)(m:M α):M<|α×dx:=fun s=>
 @AS.rec (fun _=>R<|α×dx) (fun h nx mark rd wr=>forced nx fun lo=>
  @R.rec α (fun _=>R<|α×dx) .bad (fun a s1=>
   @AS.rec (fun _=>R<|α×dx) (fun h1 pR _ gj nU=>forced pR fun hi=>.ok (a,⟨i,below lo gj,below lo nU,lo,hi⟩) ⟨h1,hi,mark,below mark gj++rd,below mark nU++wr⟩) s1)
   (m ⟨h,lo,lo,[],[]⟩)) s
def mZ(P:Program)(YO:aK)(nt:Nat)(ops:Array Oper):List Oper->Nat->Tr AV->M (Tr AV×List dx)
 |[],_,t=>M.pure (t,[])
 |o::l,i,t=>(alone i<|gN P YO nt ops o t).bind fun x=>(mZ P YO nt ops l (i+1) x.1).bind fun y=>M.pure (y.1,x.2::y.2)
def vK(n:Nat):List Nat->Bool
 |[]=>false
 |x::l=>match Nat.beq x n with
  |true=>true
  |false=>vK n l
def meets:List Nat->List Nat->Bool
 |[],_=>false
 |x::l,m=>match vK x m with
  |true=>true
  |false=>meets l m
def zk(lo hi:Nat):List Nat->Bool
 |[]=>false
 |x::l=>match Nat.ble lo x&&Nat.blt x hi with
  |true=>true
  |false=>zk lo hi l
def tf(x y:dx):Bool:= !(meets x.wr y.rd)&&(!(zk x.lo x.hi y.rd))
def tg(x:dx):Bool:=match x.wr with
 |[]=>Nat.ble x.hi x.lo
 |_=>false
def sM(b:Array Nat)(x:dx):List dx->Bool
 |[]=>true
 |y::l=>match Nat.beq x.i y.i||(tf x y|| !loose b x.i y.i) with
  |true=>sM b x l
  |false=>false
def qq(b:Array Nat)(all:List dx):List dx->Bool
 |[]=>true
 |x::l=>match tg x||sM b x all with
  |true=>qq b all l
  |false=>false
def qd(P:Program)(YO:aK)(nt:Nat)(ops:Array Oper)(t:Tr AV):M<|Tr AV:=(mZ P YO nt ops ops.toList 0 t).bind fun x=>aH (qq (Region.before ops) x.2 x.2) <| M.pure x.1
inductive bt where
 |go (fr:AF)
 |leave (fr:AF) (amR:Option Code)
def getLoop(l:Nat):M ab:=(bq l).bind fun o=>match o with
 | .loop a b c d e f g h i=>M.pure<|.loop a b c d e f g h i
 |_=>fail
abbrev oK:=aK->FuncId->Tr AV->Nat->List Nat->Option Nat->List Item->M bt
def qC:oK:=fun _ fn t nt d r k=>M.pure<|.go ⟨fn,t,nt,k,d,r⟩
def nB(l:List Item):oK:=fun _ fn t nt d r k=>M.pure<|.go ⟨fn,t,nt,l++k,d,r⟩
def J3(c:Operand)(a b:Code):oK:=fun _ fn t nt d r k=>aC (aI t c) fun v=>aC (xf v) fun v=>M.pure<|.go ⟨fn,t,nt,.code (@Bool.rec (fun _=>Code) b a v)::k,d,r⟩
def DG(id:Nat):oK:=fun _ fn t nt d r k=>match exitTo id k with
 |some k'=>M.pure<|.go ⟨fn,t,nt,k',d,r⟩
 |none=>M.pure<|.leave ⟨fn,t,nt,.code (.exit id)::k,d,r⟩<|some<|.exit id
def DH(l:Nat):oK:=fun _ fn t nt d r k=>match gotoIn l k with
 |some k'=>M.pure<|.go ⟨fn,t,nt,k',d,r⟩
 |none=>M.pure<|.leave ⟨fn,t,nt,.code (.goto l)::k,d,r⟩<|some<|.goto l
def WQ:oK:=fun _ fn t nt d r k=>M.pure<|.leave ⟨fn,t,nt,.code .ret::k,d,r⟩<|some .ret
def IV(P:Program)(ops:Array Oper):oK:=fun YO fn t nt d r k=>(jj P YO nt ops ops.toList t).bind fun t=>M.pure<|.go ⟨fn,t,nt,k,d,r⟩
def Iz(P:Program)(ops:Array Oper):oK:=fun YO fn t nt d r k=>(qd P YO nt ops t).bind fun t=>M.pure<|.go ⟨fn,t,nt,k,d,r⟩
def adn:LoopState->Bool
 | .busy=>false
 |_=>true
def lN(l:Nat):M<|Option Code:=(getLoop l).bind fun o=>match o with
 | .loop st bR fn t nt ps a b dd=>aH (adn st) <| (bN l<|some<|.loop .exhausted bR fn t nt ps a b dd).bind fun _=>M.pure bR
 |_=>fail
def andThen(p:Option Code)(k:List Item):List Item:=
 match p with
 |none=>k
 |some c=>.code c::k
def uV(f:Operand)(params:List Tmp)(assign body:Code):oK:=fun YO fn t nt d r k=>
 match r with
 |none=>
  (fu .defs).bind fun df=>(fu<|.loop .ready none fn t nt params assign body df).bind fun l=>
  aC (aI t f) fun g=>(mY YO g [.yield l]).bind fun _=>(lN l).bind fun p=>
  M.pure (.go ⟨fn,t,nt,andThen p k,df::d,r⟩)
 |some l0=>(getLoop l0).bind fun o=>match o with
  | .loop _ _ _ _ _ _ _ _ df=>
   (fu<|.loop .ready none fn t nt params assign body df).bind fun l=>
   aC (aI t f) fun g=>(mY YO g [.yield l]).bind fun _=>(lN l).bind fun p=>
   M.pure (.go ⟨fn,t,nt,andThen p k,d,r⟩)
  |_=>fail
def yY:oK:=fun _ fn t nt d r k=>
 match r with
 |none=>fail
 |some l=>(getLoop l).bind fun o=>match o with
  | .loop .ready bR fn1 t1 nt1 ps a b df=>(bN l<|some<|.loop .busy bR fn1 t1 nt1 ps a b df).bind fun _=>M.pure<|.go ⟨fn,t,nt,k,d,r⟩
  |_=>fail
def O5:oK:=fun _ _ _ _ _ _ _=>fail
def V8(P:Program)(c:Code):qK oK:=
 match c with
 | .skip=>.mk qC
 | .label _=>.mk qC
 | .seq a b=>.mk<|nB [.code a,.code b]
 | .cond c a b=>.mk<|J3 c a b
 | .block id b=>.mk<|nB [.code b,.inBlock id]
 | .loop b=>.mk<|nB [.code b,.inLoop b]
 | .scope b=>.mk<|nB [.code b,.inScope b]
 | .exit id=>.mk<|DG id
 | .goto l=>.mk<|DH l
 | .ret=>.mk WQ
 | .region _ ops false=>.mk<|IV P ops
 | .region _ ops true=>.mk<|Iz P ops
 | .rangeFunc f params a b=>.mk<|uV f params.toList a b
 | .refuse _=>.mk O5
def vt(P:Program)(it:Item):qK oK:=
 match it with
 | .code c=>V8 P c
 | .inBlock _=>.mk qC
 | .inScope _=>.mk qC
 | .inLoop b=>.mk<|nB [.code b,.inLoop b]
 | .beginRound=>.mk yY
 |_=>.mk O5
def jf(P:Program)(YO:aK)(fr:AF):M bt:= @AF.rec (fun _=>M bt) (fun fn t nt todo d r=> @List.rec Item (fun _=>M bt) (M.pure<|.leave ⟨fn,t,nt,[],d,r⟩ none) (fun it k _=>(vt P it).val YO fn t nt d r k) todo) fr
def nC(P:Program)(YO:aK)(n:Nat):AF->M bt:= @Nat.rec (fun _=>AF->M bt) (jf P YO) (fun _ ih fr=>(ih fr).bind fun x=> @bt.rec (fun _=>M bt) ih (fun fr j=>M.pure<|.leave fr j) x) n
def oL(P:Program)(YO:aK)(n:Nat):Nat->AF->M bt:= @Nat.rec (fun _=>Nat->AF->M bt) (fun _ _=>fail) (fun _ ih k fr=>(nC P YO k fr).bind fun x=> @bt.rec (fun _=>M bt) (fun fr=>ih (Nat.succ k) fr) (fun fr j=>M.pure<|.leave fr j) x) n
def AH(P:Program)(t:Tr AV):ResultVar->M AV
  | .tmp i=>lift<|t.get i
  | .cell a ty=>do
    let a ←lift (match t.get a with
      |some x=>addrOf x
      |none=>none)
    loadVar P ty a.1 a.2
def qc(P:Program)(t:Tr AV):List ResultVar->M (List AV)
  |[]=>pure []
  | r::l=>do
    let v ←AH P t r
    let vs ←qc P t l
    pure (v::vs)
def oq:List Nat->M Unit
  |[]=>pure ()
  | d ::l=>do
    match ←bq d with
    | .defs=>do
      bN d none
      oq l
    |_=>fail
def ep(l:List AV):Tr AV:=Tr.fill l 0 .nil
def jy:List Tmp->List AV->Tr AV->Tr AV
 |p::ps,v::vs,t=>jy ps vs<|t.put p<|some v
 |_,_,t=>t
def yJ(fr:AF):Option<|Operand×Oper×Array Oper×List Oper×List Item:=
 match fr.todo with
 | .code (.region _ ops false)::k=>match ops.toList with
  |o::rest=>match o.guard,o.op with
   |none,.next it false=>some (it,o,ops,rest,k)
   |_,_=>none
  |[]=>none
 |_=>none
def rC:List α->List (α×List α)
 |[]=>[]
 |x::l=>(x,l)::(rC l).map fun(y,r)=>(y,x::r)
def mapOf(exact:Bool)(es:List<|AV×AV):ab:=
 match exact with
 |true=>.map es es.length
 |false=>.jN es
def qj(P:Program)(YO:aK)(fr:AF)(n:Nat)(ob:ab)(o:Oper)(ops:Array Oper)(rest:List Oper)(k:List Item)(v:AV):M AF:=do
 bN n (some ob)
 let t ←lift (ji fr.nt fr.tmps o.dst v);let t ←jj P YO fr.nt ops rest t
 pure {fr with tmps:=t,todo:=k}
def qe(P:Program)(YO:aK)(fr:AF)(n m:Nat)(es:List<|AV×AV)(exact:Bool)(o:Oper)(ops:Array Oper)(rest:List Oper)(k:List Item):M AF:=do
 bN n none
 bN m (some<|mapOf exact es)
 let t ←lift (ji fr.nt fr.tmps o.dst<|.tuple [.bool false]);let t ←jj P YO fr.nt ops rest t
 pure {fr with tmps:=t,todo:=k}
def rj(fr:AF)(it:Operand):M<|Nat×ab:=do
  match ←lift (aI fr.tmps it) with
  | .ptr (some (n,0))=>do
    let o ←bq n
    pure (n,o)
  |_=>fail
def collect{β:Type}(f:α->Option (List β)):List α->Option (List β)
 |[]=>some []
 |x::l=>match f x with
  |none=>none
  |some a=>match collect f l with
   |none=>none
   |some b=>some<|a++b
def ry(P:Program)(YO:aK):Nat->AF->AS->Option (List<|(AF×Option Code)×AS)
 |0,_,_=>none
 |f+1,fr,s=>
  match yJ fr with
  |some (it,o,ops,rest,k)=>
   match rj fr it s with
   | .ok (n,.iter m es exact left _) s=>
    match left with
    |[]=>match qe P YO fr n m es exact o ops rest k s with
     | .ok fr s=>ry P YO f fr s
     | .bad=>none
    |_::_=>collect (fun(x:(AV×AV)×List (AV×AV))=>
     match qj P YO fr n (.iter m es exact x.2<|some x.1) o ops rest k (.tuple [.bool true,x.1.1,x.1.2]) s with
     | .ok fr s=>ry P YO f fr s
     | .bad=>none) (rC left)
   |_=>none
  |none=>match jf P YO fr s with
   | .ok (.go fr) s=>ry P YO f fr s
   | .ok (.leave fr j) s=>some [((fr,j),s)]
   | .bad=>none
def finish(P:Program)(rs:List ResultVar)(fr:AF)(j:Option Code):M AV:=do
 mM (match j with|none|some .ret=>true|_=>false)
 oq fr.defers
 let vs ←qc P fr.tmps rs
 match vs with
 |[v]=>pure v
 |_=>pure<|.tuple vs
def wO(P:Program)(rs:List ResultVar):List ((AF×Option Code)×AS)->Option (List<|AV×AS)
 |[]=>some []
 |((fr,j),s)::l=>match finish P rs fr j s with
  | .bad=>none
  | .ok v s1=>match wO P rs l with
   |none=>none
   |some r=>some<|(v,s1)::r
def abQ(a b:AV×AV):Bool:=
 match a.1,b.1 with
 | .int _ x,.int _ y=>decide<|x<y
 |_,_=>false
def Vn(x:AV×AV):List (AV×AV)->List (AV×AV)
 |[]=>[x]
 |y::l=>match abQ y x with
  |true=>y::Vn x l
  |false=>x::y::l
def Ou:List (AV×AV)->List (AV×AV)
 |[]=>[]
 |x::l=>Vn x<|Ou l
def V9(k:AV):List (AV×AV)->Bool
 |[]=>false
 |(x,_)::l=>match sameKey k x with
  |some false=>V9 k l
  |_=>true
def Vo:List (AV×AV)->Bool
 |[]=>true
 |(x,_)::l=>match V9 x l with
  |true=>false
  |false=>Vo l
def Mv:List (Nat×List (AV×AV))->Bool
 |[]=>true
 |(_,es)::l=>match Vo es with
  |true=>Mv l
  |false=>false
def NQ(n:Nat)(l:List Nat):List Nat:=
 match vK n l with
 |true=>l
 |false=>n::l
def qh:List Nat->List Nat
 |[]=>[]
 |x::l=>NQ x<|qh l
def D5(s:AS)(n:Nat):Option<|List<|AV×AV:=
 match s.h.get n with
 |some (.map es _)=>some es
 |some (.jN es)=>some es
 |_=>none
def ado:AV->Bool
 | .int _ _=>true
 |_=>false
inductive B4 where
 |none
 |nil
 |row (n:Nat) (l:List AV) (len e:Nat)
def tK(lo:Nat)(s:AS):AV->Option B4
 | .tuple []=>some .none
 | .slice none 0 (.known 0)=>some .nil
 | .slice (some (n,0)) len (.aq c e)=>match s.h.get n with
  |some (.cells k t z)=>match lp t z k 0 with
   |some l=>match (Nat.ble lo n&&Nat.blt n s.nx)&&(l.all ado&&(Nat.ble len c&&Nat.ble l.length top)) with
    |true=>some<|.row n l len e
    |false=>none
   |none=>none
  |_=>none
 |_=>none
def Vp:List (AV×AV)->List (AV×AV)->Bool
 |[],[]=>true
 |a::l,b::m=>match sameBits a.1 b.1&&sameBits a.2 b.2 with
  |true=>Vp l m
  |false=>false
 |_,_=>false
def adp:B4->B4->Bool
 | .none,.none=>true
 | .nil,.nil=>true
 | .row a l n e,.row b m k f=>Nat.beq a b&&(yO l m&&(Nat.beq n k&&Nat.beq e f))
 |_,_=>false
def Dh:AV->AV
 | .tuple (x::_)=>x
 |v=>v
def Di:AV->Option (List AV)
 | .tuple (_::l)=>some l
 |_=>none
def abR:Option (List AV)->Option (List AV)->Bool
 |none,none=>true
 |some l,some m=>yO l m
 |_,_=>false
def Nh:Option (List AV)->AV->AV
 |none,x=>x
 |some l,x=>.tuple<|x::l
def Gi(s:AS):List (Nat×List (AV×AV))->Bool
 |[]=>true
 |(n,es)::l=>match D5 s n with
  |none=>false
  |some fs=>match Vp (Ou fs) es with
   |true=>Gi s l
   |false=>false
def fits(lo:Nat)(ns:List Nat)(es:List<|Nat×List (AV×AV))(r:B4)(rest:Option<|List AV):List (AV×AS)->Bool
 |[]=>true
 |(v,s)::l=>match (below lo s.wr).all (fun n=>vK n ns)&&Gi s es with
  |false=>false
  |true=>match tK lo s (Dh v) with
   |none=>false
   |some q=>match adp q r&&abR (Di v) rest with
    |true=>fits lo ns es r rest l
    |false=>false
def entriesOf(s:AS):List Nat->Option (List<|Nat×List (AV×AV))
 |[]=>some []
 |n::l=>match D5 s n with
  |none=>none
  |some es=>match entriesOf s l with
   |none=>none
   |some r=>some<|(n,Ou es)::r
def zl:List (Nat×List (AV×AV))->M Unit
  |[]=>pure ()
  | (n,es)::l=>do
    let _ ←A8 n
    bN n (some<|.jN es)
    zl l
def Bw:List (AV×AS)->List Nat
 |[]=>[]
 |(_,s)::l=>s.rd++Bw l
def uQ:List Nat->M Unit
  |[]=>pure ()
  | n::l=>do
    let _ ←bq n
    uQ l
structure PE where
 note:List Nat
 es:List<|Nat×List (AV×AV)
 ret:B4
 rest:Option<|List AV
 lo:Nat
 skip:Nat
def GC:List (AV×AS)->Nat
 |[]=>0
 |(_,s)::l=>max s.nx<|GC l
def vu:Nat->M Unit
 |0=>M.pure ()
 |k+1=>(fu .defs).bind fun n=>(bN n none).bind fun _=>vu k
def FZ(lo:Nat)(outs:List<|AV×AS):Option PE:=
 match outs with
 |[]=>none
 |(v,s1)::l=>
  match entriesOf s1 (qh<|below lo s1.wr),tK lo s1 (Dh v) with
  |some es,some r=>match fits lo (qh<|below lo s1.wr) es r (Di v) ((v,s1)::l)&&Mv es with
   |false=>none
   |true=>some ⟨below lo<|Bw<|(v,s1)::l,es,r,Di v,lo,GC ((v,s1)::l) - lo⟩
  |_,_=>none
def D6(lo:Nat)(r:B4):M AV:=
 match r with
 | .none=>M.pure<|.tuple []
 | .nil=>M.pure<|.slice none 0<|.known 0
 | .row n c len e=>(vu<|n - lo).bind fun _=>(newRow c).bind fun m=>aH (Nat.beq m n) <| M.pure<|.slice (some (n,0)) len<|.aq len e
def Js(p:PE):M AV:=(uQ p.note).bind fun _=>(zl p.es).bind fun _=>(D6 p.lo p.ret).bind fun v=>(vu p.skip).bind fun _=>M.pure<|Nh p.rest v
def Ni(P:Program)(YO:aK)(f ntmps:Nat)(rs:List ResultVar)(body:Code)(args:List AV):AS->Option (List<|AV×AS):=fun s=>
 match ry P YO 100000 ⟨f,ep args,max ntmps args.length,[.code body],[],none⟩ s with
 |some l=>wO P rs l
 |none=>none
def DI(P:Program)(YO:aK)(f ntmps:Nat)(rs:List ResultVar)(body:Code)(args:List AV):M AV:=fun s=>
 match Nat.ble (max ntmps args.length) top with
 |false=>.bad
 |true=>match Ni P YO f ntmps rs body args ⟨s.h,s.nx,s.nx,[],[]⟩ with
  |none=>.bad
  |some outs=>match FZ s.nx outs with
   |none=>.bad
   |some p=>Js p s
def depth:Nat:=24
def FA:List AV->M AV
  | [.iface t (.map (some r))]=>do
    match ←bq r with
    | .map es ay=>do
      let n ←fu (.map es ay)
      pure (.iface t<|.map<|some n)
    | .jN es=>do
      let n ←fu (.jN es)
      pure (.iface t<|.map<|some n)
    |_=>fail
  |_=>fail
def Uw:List AV->Option (List<|List UInt8)
 |[]=>some []
 | .str s::l=>match Uw l with
  |none=>none
  |some r=>some<|s.data.toList::r
 |_::_=>none
def Mw(sep:List UInt8):List (List UInt8)->List UInt8
 |[]=>[]
 |[x]=>x
 |x::l=>x++(sep++Mw sep l)
def CT:List AV->M AV
  | [.slice a n c,.str sep]=>do
    mM (Nat.ble n<|iP n c)
    let l ←firstCells 1 n (.slice a n c)
    let ts ←lift (Uw l)
    mM (Nat.ble ((Mw sep.data.toList ts).length+n) 1048576)
    pure (.str ⟨(Mw sep.data.toList ts).toArray⟩)
  |_=>fail
def DJ(P:Program)(f ntmps:Nat)(rs:List ResultVar)(body:Code)(YO:aK)(args:List AV):M AV:=
 aH (Nat.ble (max ntmps args.length) top) <|
 (oL P YO depth 2 ⟨f,ep args,max ntmps args.length,[.code body],[],none⟩).bind fun st=> @bt.rec (fun _=>M AV) (fun _=>fail) (fun fr j=>finish P rs fr j) st
def Ez(P:Program)(iX:FuncId->Nat)(f:FuncId):qK<|aK->List AV->M AV:=
 match iX f with
 |2=>.mk fun _ args=>FA args
 |3=>.mk fun _ args=>CT args
 |w=>match P.funcs[f]? with
  |none=>.mk fun _ _=>fail
  |some fn=>match fn.body with
   |none=>.mk fun _ _=>fail
   |some body=>match fn.name == "runtime.NumGoroutine" with
    |true=>.mk fun _ _=>fail
    |false=>match Nat.beq w 1 with
     |true=>.mk fun YO args=>DI P YO f fn.ntmps fn.results.toList body args
     |false=>.mk<|DJ P f fn.ntmps fn.results.toList body
def endRound(l:Nat)(j:Option Code):M AV:=(getLoop l).bind fun o=>match o with
 | .loop _ _ fn t nt ps a b d=>(bN l<|some<|.loop (match j with|none=>.ready|some _=>.done) j fn t nt ps a b d).bind fun _=>M.pure<|.bool j.isNone
 |_=>fail
def AI(P:Program)(YO:aK)(l:Nat)(args:List AV):M AV:=(getLoop l).bind fun o=>match o with
 | .loop _ _ fn t nt ps a b _=>
  aH (and (Nat.beq args.length ps.length)<|ps.all fun p=>Nat.blt p nt) <|
  (oL P YO depth 2 ⟨fn,jy ps args t,nt,[.code a,.beginRound,.code b],[],some l⟩).bind fun st=> @bt.rec (fun _=>M AV) (fun _=>fail) (fun _ j=>endRound l j) st
 |_=>fail
def vL(P:Program)(iX:FuncId->Nat)(n:Nat):aK:= @Nat.rec (fun _=>aK) (fun _ _=>fail) (fun _ ih t args=> @Hb.rec (fun _=>M AV) (fun f=>(Ez P iX f).val ih args) (fun l=>AI P ih l args) (fun _ _ _=>fail) t) n
end
end Go.Rn
namespace Go.Rn
variable {s s1:AS} {α β:Type} {n:Nat} {f:α->M β} {o:ab} {b:β} {a:α}
structure Gj (A:Nat->Prop) (m0:Nat) (s t:AS):Prop where
 nx:s.nx=t.nx
 mark:s.mark=t.mark
 low:m0<=s.mark
 is:∀k,k<s.nx->(A k\/m0<=k)->s.h.get k=t.h.get k
structure bD (s:AS):Prop where
 mark:s.mark<=s.nx
 nx:s.nx<=top
structure mR (s s1:AS) (dr dw:List Nat):Prop where
 rd:s1.rd=dr++s.rd
 wr:s1.wr=dw++s.wr
 nx:s.nx<=s1.nx
 top:s1.nx<=top
 mark:s1.mark=s.mark
 same:∀k,k<s.mark->k ∉ dw->s1.h.get k=s.h.get k
 sub:∀k∈dw,k∈dr
 nV:∀k,s1.nx<=k->k<Rn.top->s1.h.get k=s.h.get k
theorem mR.cO{dr dw:List Nat}(f:bD s)(d:mR s s1 dr dw):bD s1:=⟨by rw[d.mark];exact Nat.le_trans f.mark d.nx,d.top⟩
structure tW (A:Nat->Prop) (m0:Nat) (s1 t t1:AS) (dr dw:List Nat):Prop where
 pw:Gj A m0 s1 t1
 rd:t1.rd=dr++t.rd
 wr:t1.wr=dw++t.wr
 same:∀k,k<m0->k ∉ dw->t1.h.get k=t.h.get k
 nV:∀k,s1.nx<=k->k<Rn.top->t1.h.get k=t.h.get k
def YN(m:M α):Prop:=∀s v s1,bD s->m s= .ok v s1->∃dr dw,mR s s1 dr dw/\∀A m0 t,Gj A m0 s t->(∀k∈dr,k<m0->A k)->∃t1,m t= .ok v t1/\tW A m0 s1 t t1 dr dw
theorem M.bQ{m:M α}(h:m s= .ok a s1):(m.bind f) s=f a s1:=by unfold M.bind;rw[h]
theorem M.abS{m:M α}(h:m s= .bad):(m.bind f) s= .bad:=by unfold M.bind;rw[h]
theorem M.aR{m:M α}{s2:AS}(h:(m.bind f) s= .ok b s2):∃a s1,m s= .ok a s1/\f a s1= .ok b s2:=by
 cases e:m s with
 |bad=>rw[M.abS e] at h;cases h
 |ok a s1=>rw[M.bQ e] at h;exact⟨a,s1,rfl,h⟩
theorem bind_eq(m:M α)(f:α->M β):(m >>= f)=m.bind f:=rfl
theorem adq(a:α):(pure a:M α)=M.pure a:=rfl
theorem ch(a:α)(f:α->M β):aC (some a) f=f a:=rfl
theorem dC(m:M β):aH true m=m:=rfl
theorem bu{o:Option α}(h:aC o f s= .ok b s1):∃a,o=some a/\f a s= .ok b s1:=by
 cases o with
 |none=>cases h
 |some a=>exact⟨a,rfl,h⟩
theorem cZ{c:Bool}{m:M β}(h:aH c m s= .ok b s1):c=true/\m s= .ok b s1:=by
 cases c with
 |false=>cases h
 |true=>exact⟨rfl,h⟩
theorem bK{b:α}(h:M.pure a s= .ok b s1):b=a/\s1=s:=by cases h;exact⟨rfl,rfl⟩
theorem hU{o:Option α}{b:α}(h:lift o s= .ok b s1):o=some b/\s1=s:=by
 cases o with
 |none=>cases h
 |some a=>cases h;exact⟨rfl,rfl⟩
theorem YN.pure(a:α):YN<|M.pure a:=by intro s v s1 fi h;obtain⟨rfl,rfl⟩:=bK h;exact⟨[],[],⟨rfl,rfl,Nat.le_refl _,fi.nx,rfl,fun _ _ _=>rfl,fun _ h=>h,fun _ _ _=>rfl⟩,fun A m0 t ag _=>⟨t,rfl,ag,rfl,rfl,fun _ _ _=>rfl,fun _ _ _=>rfl⟩⟩
theorem YN.fail{α:Type}:YN (fail:M α):=by intro s v s1 _ h;cases h
theorem YN.aC{α β:Type}{o:Option α}{f:α->M β}(h:∀a,o=some a->YN (f a)):YN<|aC o f:=by
 cases o with
 |none=>exact YN.fail
 |some a=>exact h a rfl
theorem YN.aH{β:Type}{c:Bool}{m:M β}(h:c=true->YN m):YN<|aH c m:=by
 cases c with
 |false=>exact YN.fail
 |true=>exact h rfl
theorem YN.lift{α:Type}(o:Option α):YN<|lift o:=by
 cases o with
 |none=>exact YN.fail
 |some a=>exact YN.pure a
theorem YN.mM(b:Bool):YN<|mM b:=by
 cases b with
 |false=>exact YN.fail
 |true=>exact YN.pure ()
theorem YN.bind{m:M α}(hm:YN m)(hf:∀a,YN<|f a):YN<|m.bind f:=by
 intro s v s2 fi h;obtain⟨a,s1,h1,h2⟩:=M.aR h;obtain⟨dr,dw,d,x⟩:=hm s a s1 fi h1;obtain⟨sc,nW,d',x'⟩:=hf a s1 v s2 (d.cO fi) h2;refine⟨sc++dr,nW++dw,⟨by rw[d'.rd,d.rd,List.append_assoc],by rw[d'.wr,d.wr,List.append_assoc],Nat.le_trans d.nx d'.nx,d'.top,d'.mark.trans d.mark,?_,?_,?_⟩,?_⟩
 ·intro k hk hn;have uo:k ∉ nW:=fun e=>hn<|List.mem_append.2<|.inl e;have o6:k ∉ dw:=fun e=>hn<|List.mem_append.2<|.inr e;exact(d'.same k (by rw[d.mark];exact hk) uo).trans<|d.same k hk o6
 ·intro k hk;rcases List.mem_append.1 hk with e|e
  ·exact List.mem_append.2<|.inl<|d'.sub k e
  ·exact List.mem_append.2<|.inr<|d.sub k e
 ·intro k hk ht;exact(d'.nV k hk ht).trans<|d.nV k (Nat.le_trans d'.nx hk) ht
 ·intro A m0 t ag hA;obtain⟨t1,e1,al⟩:=x A m0 t ag fun k hk bB=>hA k (List.mem_append.2<|.inr hk) bB;obtain⟨t2,e2,qL⟩:=x' A m0 t1 al.pw fun k hk bB=>hA k (List.mem_append.2<|.inl hk) bB;refine⟨t2,by rw[M.bQ e1];exact e2,qL.pw,by rw[qL.rd,al.rd,List.append_assoc],by rw[qL.wr,al.wr,List.append_assoc],?_,?_⟩
  ·intro k hk hn;have uo:k ∉ nW:=fun e=>hn<|List.mem_append.2<|.inl e;have o6:k ∉ dw:=fun e=>hn<|List.mem_append.2<|.inr e;exact(qL.same k hk uo).trans<|al.same k hk o6
  ·intro k hk ht;exact(qL.nV k hk ht).trans<|al.nV k (Nat.le_trans d'.nx hk) ht
theorem blt_eq(n m:Nat):(Nat.blt n m=true)=(n<m):=by show(Nat.ble (n+1) m=true)=_;rw[Nat.ble_eq];rfl
theorem yP(a b:α)(n m:Nat): @Bool.rec (fun _=>α) a b (Nat.blt n m)=if n<m then b else a:=by
 rw[Nc];by_cases h:n<m
 ·rw[if_pos h,if_pos (by rw[blt_eq];exact h)]
 ·rw[if_neg h,if_neg (by rw[blt_eq];exact h)]
theorem IW(h:bq n s= .ok o s1):
 n<s.nx/\s.h.get n=some o/\s1=if n<s.mark then{s with rd:=n::s.rd} else s:=by
 obtain⟨hh,nx,mark,rd,wr⟩:=s;cases hb:Nat.blt n nx with
 |false=>
  have:bq n ⟨hh,nx,mark,rd,wr⟩= .bad:=by show @Bool.rec (fun _=>R ab) .bad _ (Nat.blt n nx)=_;rw[hb]
  rw[this] at h;cases h
 |true=>
  cases hg:hh.get n with
  |none=>
   have:bq n ⟨hh,nx,mark,rd,wr⟩= .bad:=by show @Bool.rec (fun _=>R ab) .bad (@Option.rec ab (fun _=>R ab) .bad _<|hh.get n) (Nat.blt n nx)=_;rw[hb,hg]
   rw[this] at h;cases h
  |some o'=>
   have:bq n ⟨hh,nx,mark,rd,wr⟩= @Bool.rec (fun _=>R ab) (.ok o' ⟨hh,nx,mark,rd,wr⟩) (.ok o' ⟨hh,nx,mark,n::rd,wr⟩) (Nat.blt n mark):=by show @Bool.rec (fun _=>R ab) .bad (@Option.rec ab (fun _=>R ab) .bad _<|hh.get n) (Nat.blt n nx)=_;rw[hb,hg]
   rw[this] at h;have bB:n<nx:=by rw[←blt_eq];exact hb
   cases hm:Nat.blt n mark with
   |false=>
    rw[hm] at h;cases h;have:¬n<mark:=by rw[←blt_eq,hm];simp
    exact⟨bB,by first|exact hg|rfl,by simp[this]⟩
   |true=>
    rw[hm] at h;cases h;have:n<mark:=by rw[←blt_eq];exact hm
    exact⟨bB,by first|exact hg|rfl,by simp[this]⟩
theorem Vq(h1:n<s.nx)(h2:s.h.get n=some o):
 bq n s= .ok o (if n<s.mark then{s with rd:=n::s.rd} else s):=by
 obtain⟨hh,nx,mark,rd,wr⟩:=s;have hb:Nat.blt n nx=true:=by rw[blt_eq];exact h1
 have hg:hh.get n=some o:=h2;show @Bool.rec (fun _=>R ab) .bad (@Option.rec ab (fun _=>R ab) .bad (fun o=> @Bool.rec (fun _=>R ab) (.ok o ⟨hh,nx,mark,rd,wr⟩) (.ok o ⟨hh,nx,mark,n::rd,wr⟩)<|Nat.blt n mark)<|hh.get n) (Nat.blt n nx)=_;rw[hb,hg];show @Bool.rec (fun _=>R ab) _ _ (Nat.blt n mark)=_;rw[yP];by_cases e:n<mark<;>simp[e]
theorem Ux{o:Option ab}{u:Unit}(h:bN n o s= .ok u s1):
 n<s.nx/\n<top/\(∃p,s.h.get n=some p/\p.dm=false)/\s1=if n<s.mark then{s with h:=s.h.put n o,rd:=n::s.rd,wr:=n::s.wr} else{s with h:=s.h.put n o}:=by
 obtain⟨hh,nx,mark,rd,wr⟩:=s;have e:bN n o ⟨hh,nx,mark,rd,wr⟩= @Bool.rec (fun _=>R Unit) .bad
  (@Option.rec ab (fun _=>R Unit) .bad
   (fun p=> @Bool.rec (fun _=>R Unit)
    (@Bool.rec (fun _=>R Unit) (.ok () ⟨hh.put n o,nx,mark,rd,wr⟩) (.ok () ⟨hh.put n o,nx,mark,n::rd,n::wr⟩)<|Nat.blt n mark)
    .bad p.dm)
   (hh.get n))
  (and (Nat.blt n nx)<|Nat.blt n top):=rfl
 rw[e] at h;cases hb:and (Nat.blt n nx) (Nat.blt n top) with
 |false=>rw[hb] at h;cases h
 |true=>
  rw[hb] at h;have iI:=Bool.and_eq_true_iff.1 hb;rw[blt_eq,blt_eq] at iI;cases hg:hh.get n with
  |none=>rw[hg] at h;cases h
  |some p=>
   rw[hg] at h;cases hr:p.dm with
   |true=>
    have h': @Bool.rec (fun _=>R Unit)
     (@Bool.rec (fun _=>R Unit) (.ok () ⟨hh.put n o,nx,mark,rd,wr⟩) (.ok () ⟨hh.put n o,nx,mark,n::rd,n::wr⟩)<|Nat.blt n mark)
     .bad p.dm= .ok u s1:=h
    rw[hr] at h';cases h'
   |false=>
    have h': @Bool.rec (fun _=>R Unit)
     (@Bool.rec (fun _=>R Unit) (.ok () ⟨hh.put n o,nx,mark,rd,wr⟩) (.ok () ⟨hh.put n o,nx,mark,n::rd,n::wr⟩)<|Nat.blt n mark)
     .bad p.dm= .ok u s1:=h
    rw[hr] at h';refine⟨iI.1,iI.2,⟨p,by first|exact hg|rfl,hr⟩,?_⟩;have uq: @Bool.rec (fun _=>R Unit) (.ok () ⟨hh.put n o,nx,mark,rd,wr⟩) (.ok () ⟨hh.put n o,nx,mark,n::rd,n::wr⟩) (Nat.blt n mark)= .ok u s1:=h';rw[yP] at uq;by_cases e:n<mark
    ·rw[if_pos e] at uq;injection uq with _ h3;simp[e, ←h3]
    ·rw[if_neg e] at uq;injection uq with _ h3;simp[e, ←h3]
theorem Ov{o:Option ab}{p:ab}(h1:n<s.nx)(h2:n<top)(h3:s.h.get n=some p)(h4:p.dm=false):
 bN n o s= .ok () (if n<s.mark then{s with h:=s.h.put n o,rd:=n::s.rd,wr:=n::s.wr} else{s with h:=s.h.put n o}):=by
 obtain⟨hh,nx,mark,rd,wr⟩:=s;have e:bN n o ⟨hh,nx,mark,rd,wr⟩= @Bool.rec (fun _=>R Unit) .bad
  (@Option.rec ab (fun _=>R Unit) .bad
   (fun p=> @Bool.rec (fun _=>R Unit)
    (@Bool.rec (fun _=>R Unit) (.ok () ⟨hh.put n o,nx,mark,rd,wr⟩) (.ok () ⟨hh.put n o,nx,mark,n::rd,n::wr⟩)<|Nat.blt n mark)
    .bad p.dm)
   (hh.get n))
  (and (Nat.blt n nx)<|Nat.blt n top):=rfl
 have hb:and (Nat.blt n nx) (Nat.blt n top)=true:=Bool.and_eq_true_iff.2 ⟨by rw[blt_eq];exact h1,by rw[blt_eq];exact h2⟩;have hg:hh.get n=some p:=h3;rw[e,hb,hg];show @Bool.rec (fun _=>R Unit) (@Bool.rec (fun _=>R Unit) (.ok () ⟨hh.put n o,nx,mark,rd,wr⟩) (.ok () ⟨hh.put n o,nx,mark,n::rd,n::wr⟩)<|Nat.blt n mark) .bad p.dm=_;rw[h4];show @Bool.rec (fun _=>R Unit) (.ok () ⟨hh.put n o,nx,mark,rd,wr⟩) (.ok () ⟨hh.put n o,nx,mark,n::rd,n::wr⟩) (Nat.blt n mark)=_;rw[yP];by_cases e:n<mark<;>simp[e]
theorem uM(h:fu o s= .ok n s1):s.nx<top/\n=s.nx/\s1={s with h:=s.h.put s.nx<|some o,nx:=s.nx+1}:=by
 obtain⟨hh,nx,mark,rd,wr⟩:=s;have e:fu o ⟨hh,nx,mark,rd,wr⟩= @Bool.rec (fun _=>R Nat) .bad (forced nx fun m=>.ok m ⟨hh.put m<|some o,m+1,mark,rd,wr⟩) (Nat.blt nx top):=rfl;rw[e,yH] at h;cases hb:Nat.blt nx top with
 |false=>rw[hb] at h;cases h
 |true=>rw[hb] at h;cases h;exact⟨by rw[←blt_eq];exact hb,rfl,rfl⟩
theorem Uy(h:s.nx<top):fu o s= .ok s.nx {s with h:=s.h.put s.nx<|some o,nx:=s.nx+1}:=by
 obtain⟨hh,nx,mark,rd,wr⟩:=s;have e:fu o ⟨hh,nx,mark,rd,wr⟩= @Bool.rec (fun _=>R Nat) .bad (forced nx fun m=>.ok m ⟨hh.put m<|some o,m+1,mark,rd,wr⟩) (Nat.blt nx top):=rfl;have hb:Nat.blt nx top=true:=by rw[blt_eq];exact h
 rw[e,yH,hb]
theorem YN.bq(n:Nat):YN<|bq n:=by
 intro s v s1 fi h;obtain⟨h1,h2,rfl⟩:=IW h;by_cases e:n<s.mark
 ·rw[if_pos e];refine⟨[n],[],⟨rfl,rfl,Nat.le_refl _,fi.nx,rfl,fun _ _ _=>rfl,fun _ h=>(by cases h),fun _ _ _=>rfl⟩,fun A m0 t ag hA=>?_⟩;have hq:A n\/m0<=n:=by
   by_cases q:n<m0
   ·exact .inl<|hA n iH q
   ·exact .inr aj
  have hg:=ag.is n h1 hq;have hr:=Vq (o:=v) (s:=t) (n:=n) Ew Ey;rw[←ag.mark,if_pos e] at hr;exact⟨_,hr,⟨ag.nx,by first|exact ag.mark|rfl,ag.low,ag.is⟩,rfl,rfl,fun _ _ _=>rfl,fun _ _ _=>rfl⟩
 ·rw[if_neg e];refine⟨[],[],⟨rfl,rfl,Nat.le_refl _,fi.nx,rfl,fun _ _ _=>rfl,fun _ h=>(by cases h),fun _ _ _=>rfl⟩,fun A m0 t ag hA=>?_⟩;have hg:=ag.is n h1<|.inr<|Nat.le_trans ag.low aj;have hr:=Vq (o:=v) (s:=t) (n:=n) Ew Ey;rw[←ag.mark,if_neg e] at hr;exact⟨_,hr,ag,rfl,rfl,fun _ _ _=>rfl,fun _ _ _=>rfl⟩
theorem YN.bN(n:Nat)(o:Option ab):YN<|bN n o:=by
 intro s v s1 fi h;obtain⟨h1,ht,⟨p,h2,h3⟩,rfl⟩:=Ux h;by_cases e:n<s.mark
 ·rw[if_pos e];refine⟨[n],[n],⟨rfl,rfl,Nat.le_refl _,fi.nx,rfl,fun k hk hn=>?_,fun _ h=>h,fun k hk gk=>?_⟩,fun A m0 t ag hA=>?_⟩
  ·show(s.h.put n o).get k=_;rw[Tr.du _ _ _ _ ht (by have:=fi.mark;have:=fi.nx;omega),if_neg<|by simpa using hn]
  ·show(s.h.put n o).get k=_;have:s.nx<=k:=hk;rw[Tr.du _ _ _ _ ht gk,if_neg aj]
  ·have hq:A n\/m0<=n:=by
    by_cases q:n<m0
    ·exact .inl<|hA n iH q
    ·exact .inr aj
   have hg:=ag.is n h1 hq;have hr:=Ov (o:=o) (s:=t) (n:=n) (p:=p) Ew ht Ey h3;rw[←ag.mark,if_pos e] at hr;refine⟨_,hr,⟨ag.nx,by first|exact ag.mark|rfl,ag.low,fun k hk hq=>?_⟩,rfl,rfl,fun k hk hn=>?_,fun k hk gk=>?_⟩
   ·show(s.h.put n o).get k=(t.h.put n o).get k;have Hd:k<s.nx:=hk;have:=fi.nx;rw[Tr.du _ _ _ _ ht aj,Tr.du _ _ _ _ ht aj];by_cases q:k=n
    ·simp[q]
    ·rw[if_neg q,if_neg q];exact ag.is k hk hq
   ·show(t.h.put n o).get k=_;have:=fi.mark;have:=fi.nx;have:=ag.low;rw[Tr.du _ _ _ _ ht aj,if_neg<|by simpa using hn]
   ·show(t.h.put n o).get k=_;have:s.nx<=k:=hk;rw[Tr.du _ _ _ _ ht gk,if_neg aj]
 ·rw[if_neg e];refine⟨[],[],⟨rfl,rfl,Nat.le_refl _,fi.nx,rfl,fun k hk hn=>?_,fun _ h=>h,fun k hk gk=>?_⟩,fun A m0 t ag hA=>?_⟩
  ·show(s.h.put n o).get k=_;have:=fi.mark;have:=fi.nx;rw[Tr.du _ _ _ _ ht aj,if_neg aj]
  ·show(s.h.put n o).get k=_;have:s.nx<=k:=hk;rw[Tr.du _ _ _ _ ht gk,if_neg aj]
  ·have hg:=ag.is n h1<|.inr<|Nat.le_trans ag.low aj;have hr:=Ov (o:=o) (s:=t) (n:=n) (p:=p) Ew ht Ey h3;rw[←ag.mark,if_neg e] at hr;refine⟨_,hr,⟨ag.nx,by first|exact ag.mark|rfl,ag.low,fun k hk hq=>?_⟩,rfl,rfl,fun k hk hn=>?_,fun k hk gk=>?_⟩
   ·show(s.h.put n o).get k=(t.h.put n o).get k;have Hd:k<s.nx:=hk;have:=fi.nx;rw[Tr.du _ _ _ _ ht aj,Tr.du _ _ _ _ ht aj];by_cases q:k=n
    ·simp[q]
    ·rw[if_neg q,if_neg q];exact ag.is k hk hq
   ·show(t.h.put n o).get k=_;have:=fi.mark;have:=fi.nx;have:=ag.low;rw[Tr.du _ _ _ _ ht aj,if_neg aj]
   ·show(t.h.put n o).get k=_;have:s.nx<=k:=hk;rw[Tr.du _ _ _ _ ht gk,if_neg aj]
theorem YN.fu(o:ab):YN<|fu o:=by
 intro s v s1 fi h;obtain⟨ht,rfl,rfl⟩:=uM h;refine⟨[],[],⟨rfl,rfl,Nat.le_succ _,ht,rfl,fun k hk hn=>?_,fun _ h=>h,fun k hk gk=>?_⟩,fun A m0 t ag hA=>?_⟩
 ·show(s.h.put s.nx<|some o).get k=_;have:=fi.mark;have:=fi.nx;rw[Tr.du _ _ _ _ ht aj,if_neg aj]
 ·show(s.h.put s.nx<|some o).get k=_;have:s.nx+1<=k:=hk;rw[Tr.du _ _ _ _ ht gk,if_neg aj]
 ·have hr:=Uy (o:=o) (s:=t) (by rw[←ag.nx];exact ht);rw[←ag.nx] at hr;refine⟨_,hr,⟨rfl,ag.mark,ag.low,fun k hk hq=>?_⟩,rfl,rfl,fun k hk hn=>?_,fun k hk gk=>?_⟩
  ·show(s.h.put s.nx<|some o).get k=(t.h.put s.nx<|some o).get k;have Hd:k<s.nx+1:=hk;rw[Tr.du _ _ _ _ ht aj,Tr.du _ _ _ _ ht aj];by_cases q:k=s.nx
   ·simp[q]
   ·rw[if_neg q,if_neg q];exact ag.is k aj hq
  ·show(t.h.put s.nx<|some o).get k=_;have:=fi.mark;have:=fi.nx;have:=ag.low;rw[Tr.du _ _ _ _ ht aj,if_neg aj]
  ·show(t.h.put s.nx<|some o).get k=_;have:s.nx+1<=k:=hk;rw[Tr.du _ _ _ _ ht gk,if_neg aj]
end Go.Rn
namespace Go.Rn
theorem YN.jd(n off k:Nat):YN<|jd n off k:=by
 cases k with
 |zero=>exact YN.pure _
 |succ k=>
  unfold Rn.jd
  repeat' (first
  |exact YN.pure _|exact YN.fail|exact YN.lift _|exact YN.bq _
  |refine YN.aC (fun _ _=>?_)|refine YN.aH (fun _=>?_)|refine YN.bind ?_ (fun _=>?_)
  |split)
theorem YN.qX(n off:Nat)(l:List AV):YN<|qX n off l:=by
 unfold Rn.qX
 repeat' (first
  |exact YN.pure _|exact YN.fail|exact YN.bq _|exact YN.bN _ _
  |exact YN.fail
  |refine YN.aC (fun _ _=>?_)|refine YN.aH (fun _=>?_)|refine YN.bind ?_ (fun _=>?_)
  |split)
theorem YN.newRow(l:List AV):YN<|newRow l:=by
 unfold Rn.newRow
 repeat' (first
  |exact YN.pure _|exact YN.fail|exact YN.fu _
  |exact YN.fail
  |refine YN.aC (fun _ _=>?_)|refine YN.aH (fun _=>?_)|refine YN.bind ?_ (fun _=>?_)
  |split)
theorem YN.loadVar(P:Program)(t:TypeId)(n off:Nat):YN<|loadVar P t n off:=by
 unfold Rn.loadVar
 repeat' (first
  |exact YN.pure _|exact YN.fail|exact YN.lift _
  |exact YN.fail|exact YN.jd _ _ _
  |refine YN.aC (fun _ _=>?_)|refine YN.aH (fun _=>?_)|refine YN.bind ?_ (fun _=>?_)
  |split)
theorem YN.w7(P:Program)(t:TypeId)(n off:Nat):YN<|w7 P t n off:=by
 unfold Rn.w7
 repeat' (first
  |exact YN.pure _|exact YN.fail|exact YN.lift _|exact YN.bq _
  |exact YN.fail
  |refine YN.aC (fun _ _=>?_)|refine YN.aH (fun _=>?_)|refine YN.bind ?_ (fun _=>?_)
  |split)
theorem YN.uU(P:Program)(t:TypeId){YO:aK}(bI:∀t a,YN<|YO t a)(n o:Nat):YN<|uU P t YO n o:=by
 unfold Rn.uU
 repeat' (first
  |exact YN.pure _|exact YN.fail|exact YN.lift _
  |exact bI _ _
  |refine YN.aC (fun _ _=>?_)|refine YN.aH (fun _=>?_)|refine YN.bind ?_ (fun _=>?_)
  |split)
theorem YN.loadAt(P:Program)(t:TypeId){YO:aK}(bI:∀t a,YN<|YO t a)(a:AV):YN<|loadAt P t YO a:=by
 unfold Rn.loadAt
 repeat' (first
  |exact YN.pure _|exact YN.fail
  |exact bI _ _|exact YN.loadVar _ _ _ _|exact YN.w7 _ _ _ _|exact YN.uU _ _ bI _ _
  |refine YN.aC (fun _ _=>?_)|refine YN.aH (fun _=>?_)|refine YN.bind ?_ (fun _=>?_)
  |split)
theorem YN.storeVar(P:Program)(t:TypeId)(n off:Nat)(v:AV):YN<|storeVar P t n off v:=by
 unfold Rn.storeVar
 repeat' (first
  |exact YN.pure _|exact YN.fail
  |exact YN.fail|exact YN.qX _ _ _
  |refine YN.aC (fun _ _=>?_)|refine YN.aH (fun _=>?_)|refine YN.bind ?_ (fun _=>?_)
  |split)
theorem YN.buildSlice(P:Program)(t:TypeId)(len:Nat)(parts:List<|Nat×AV):YN<|buildSlice P t len parts:=by
 unfold Rn.buildSlice
 repeat' (first
  |exact YN.pure _|exact YN.fail|exact YN.lift _|exact YN.mM _
  |exact YN.fail|exact YN.newRow _
  |refine YN.aC (fun _ _=>?_)|refine YN.aH (fun _=>?_)|refine YN.bind ?_ (fun _=>?_)
  |split)
theorem YN.makeSlice(P:Program)(t:TypeId)(len cap:AV):YN<|makeSlice P t len cap:=by
 unfold Rn.makeSlice
 repeat' (first
  |exact YN.pure _|exact YN.fail|exact YN.fu _
  |exact YN.fail
  |refine YN.aC (fun _ _=>?_)|refine YN.aH (fun _=>?_)|refine YN.bind ?_ (fun _=>?_)
  |split)
theorem YN.firstCells(size n:Nat)(v:AV):YN<|firstCells size n v:=by
 unfold Rn.firstCells
 repeat' (first
  |exact YN.pure _|exact YN.fail
  |exact YN.fail|exact YN.jd _ _ _
  |refine YN.aC (fun _ _=>?_)|refine YN.aH (fun _=>?_)|refine YN.bind ?_ (fun _=>?_)
  |split)
theorem YN.grown(a b c:Nat)(l m:List AV):YN<|grown a b c l m:=by
 unfold Rn.grown
 repeat' (first
  |exact YN.pure _|exact YN.fail
  |exact YN.fail|exact YN.newRow _
  |refine YN.aC (fun _ _=>?_)|refine YN.aH (fun _=>?_)|refine YN.bind ?_ (fun _=>?_)
  |split)
theorem YN.wN(n off:Nat)(l:List AV):YN<|wN n off l:=by
 unfold Rn.wN
 repeat' (first
  |exact YN.pure _|exact YN.fail|exact YN.bq _|exact YN.bN _ _
  |exact YN.fail
  |refine YN.aC (fun _ _=>?_)|refine YN.aH (fun _=>?_)|refine YN.bind ?_ (fun _=>?_)
  |split)
theorem YN.qY(size bytes:Nat)(base:Option<|Nat×Nat)(len:Nat)(cap:cC)(n:Nat)(new:List AV):YN<|qY size bytes base len cap n new:=by
 unfold Rn.qY
 repeat' (first
  |exact YN.pure _|exact YN.fail|exact YN.bq _|exact YN.bN _ _
  |exact YN.fail|exact YN.jd _ _ _|exact YN.qX _ _ _|exact YN.firstCells _ _ _|exact YN.grown _ _ _ _ _|exact YN.wN _ _ _
  |refine YN.aC (fun _ _=>?_)|refine YN.aH (fun _=>?_)|refine YN.bind ?_ (fun _=>?_)
  |split)
theorem YN.ph(P:Program)(ts:Array TypeId)(s x:AV):YN<|ph P ts s x:=by
 unfold Rn.ph
 repeat' (first
  |exact YN.pure _|exact YN.fail
  |exact YN.fail|exact YN.firstCells _ _ _|exact YN.qY _ _ _ _ _ _ _
  |refine YN.aC (fun _ _=>?_)|refine YN.aH (fun _=>?_)|refine YN.bind ?_ (fun _=>?_)
  |split)
theorem YN.yW(P:Program)(ts:Array TypeId)(s x:AV):YN<|yW P ts s x:=by
 unfold Rn.yW
 repeat' (first
  |exact YN.pure _|exact YN.fail
  |exact YN.fail|exact YN.qX _ _ _|exact YN.firstCells _ _ _
  |refine YN.aC (fun _ _=>?_)|refine YN.aH (fun _=>?_)|refine YN.bind ?_ (fun _=>?_)
  |split)
theorem YN.A8(r:Nat):YN<|A8 r:=by
 unfold Rn.A8
 repeat' (first
  |exact YN.pure _|exact YN.fail|exact YN.bq _
  |exact YN.fail
  |refine YN.aC (fun _ _=>?_)|refine YN.aH (fun _=>?_)|refine YN.bind ?_ (fun _=>?_)
  |split)
theorem YN.yX(P:Program)(k:TypeId)(a x:AV):YN<|yX P k a x:=by
 unfold Rn.yX
 repeat' (first
  |exact YN.pure _|exact YN.fail|exact YN.bq _
  |exact YN.fail
  |refine YN.aC (fun _ _=>?_)|refine YN.aH (fun _=>?_)|refine YN.bind ?_ (fun _=>?_)
  |split)
theorem YN.DF(r:Nat)(a b:AV)(l:List<|AV×AV)(c:Nat)(f:Option<|Nat×AV):YN<|DF r a b l c f:=by
 unfold Rn.DF
 repeat' (first
  |exact YN.pure _|exact YN.fail|exact YN.bN _ _
  |exact YN.fail
  |refine YN.aC (fun _ _=>?_)|refine YN.aH (fun _=>?_)|refine YN.bind ?_ (fun _=>?_)
  |split)
theorem YN.AB(r:Nat)(a b:AV)(l:List<|AV×AV)(f:Option<|Nat×AV):YN<|AB r a b l f:=by
 unfold Rn.AB
 repeat' (first
  |exact YN.pure _|exact YN.fail|exact YN.bN _ _
  |exact YN.fail
  |refine YN.aC (fun _ _=>?_)|refine YN.aH (fun _=>?_)|refine YN.bind ?_ (fun _=>?_)
  |split)
theorem YN.yN(P:Program)(t:TypeId)(x k:AV)(ok:Bool):YN<|yN P t x k ok:=by
 unfold Rn.yN
 repeat' (first
  |exact YN.pure _|exact YN.fail
  |exact YN.fail|exact YN.yX _ _ _ _
  |refine YN.aC (fun _ _=>?_)|refine YN.aH (fun _=>?_)|refine YN.bind ?_ (fun _=>?_)
  |split)
theorem YN.xh(P:Program)(t:TypeId)(m k v:AV):YN<|xh P t m k v:=by
 unfold Rn.xh
 repeat' (first
  |exact YN.pure _|exact YN.fail|exact YN.bq _
  |exact YN.fail|exact YN.DF _ _ _ _ _ _|exact YN.AB _ _ _ _ _
  |refine YN.aC (fun _ _=>?_)|refine YN.aH (fun _=>?_)|refine YN.bind ?_ (fun _=>?_)
  |split)
theorem YN.zE(P:Program)(ts:Array TypeId)(x:AV):YN<|zE P ts x:=by
 unfold Rn.zE
 repeat' (first
  |exact YN.pure _|exact YN.fail|exact YN.lift _
  |exact YN.fail|exact YN.A8 _
  |refine YN.aC (fun _ _=>?_)|refine YN.aH (fun _=>?_)|refine YN.bind ?_ (fun _=>?_)
  |split)
theorem YN.yI(P:Program)(b:Builtin)(ts:Array TypeId)(l:List AV):YN<|yI P b ts l:=by
 unfold Rn.yI
 repeat' (first
  |exact YN.pure _|exact YN.fail|exact YN.lift _
  |exact YN.fail|exact YN.ph _ _ _ _|exact YN.yW _ _ _ _|exact YN.zE _ _ _|exact YN.ae6 _ _ _
  |refine YN.aC (fun _ _=>?_)|refine YN.aH (fun _=>?_)|refine YN.bind ?_ (fun _=>?_)
  |split)
theorem YN.AP(P:Program)(a:TypeId)(x:AV):YN<|AP P a x:=by
 unfold Rn.AP
 repeat' (first
  |exact YN.pure _|exact YN.fail|exact YN.bq _|exact YN.bN _ _|exact YN.fu _
  |exact YN.fail
  |refine YN.aC (fun _ _=>?_)|refine YN.aH (fun _=>?_)|refine YN.bind ?_ (fun _=>?_)
  |split)
theorem YN.C6(x:AV):YN<|C6 x:=by
 unfold Rn.C6
 repeat' (first
  |exact YN.pure _|exact YN.fail|exact YN.bq _
  |exact YN.fail
  |refine YN.aC (fun _ _=>?_)|refine YN.aH (fun _=>?_)|refine YN.bind ?_ (fun _=>?_)
  |split)
theorem YN.sR{YO:aK}(bI:∀t a,YN<|YO t a)(n o k:Nat):YN<|sR YO n o k:=by
 unfold Rn.sR
 repeat' (first
  |exact YN.pure _|exact YN.fail
  |exact bI _ _
  |refine YN.aC (fun _ _=>?_)|refine YN.aH (fun _=>?_)|refine YN.bind ?_ (fun _=>?_)
  |split)
theorem YN.mY{YO:aK}(bI:∀t a,YN<|YO t a)(f:AV)(l:List AV):YN<|mY YO f l:=by
 unfold Rn.mY
 repeat' (first
  |exact YN.pure _|exact YN.fail
  |exact bI _ _
  |refine YN.aC (fun _ _=>?_)|refine YN.aH (fun _=>?_)|refine YN.bind ?_ (fun _=>?_)
  |split)
theorem YN.Hc(P:Program){YO:aK}(bI:∀t a,YN<|YO t a)(t:Tr AV)(op:Op):YN<|Hc P YO t op:=by unfold Rn.Hc Rn.dI;split<;>simp only[qK.val]<;>(first|unfold Rn.vq|unfold Rn.Bu|unfold Rn.Jr|unfold Rn.BH|unfold Rn.A9|unfold Rn.Aq|unfold Rn.tH|unfold Rn.xj|unfold Rn.Av|unfold Rn.tV|unfold Rn.B3|unfold Rn.AD|unfold Rn.CG|unfold Rn.Aw|unfold Rn.AE|unfold Rn.As|unfold Rn.td|unfold Rn.Au|unfold Rn.Ba|unfold Rn.p9|unfold Rn.Bb|unfold Rn.w8|unfold Rn.qf|unfold Rn.C5|unfold Rn.Bc|unfold Rn.Bd|unfold Rn.CS|unfold Rn.AG|unfold Rn.oo|unfold Rn.tI|unfold Rn.NP|unfold Rn.V7)<;>(repeat' (first|exact YN.pure _|exact YN.fail|exact YN.lift _|exact YN.mM _|exact YN.bq _|exact YN.bN _ _|exact YN.fu _|exact bI _ _|exact YN.jd _ _ _|exact YN.qX _ _ _|exact YN.newRow _|exact YN.loadVar _ _ _ _|exact YN.w7 _ _ _ _|exact YN.loadAt _ _ bI _|exact YN.storeVar _ _ _ _ _|exact YN.buildSlice _ _ _ _|exact YN.makeSlice _ _ _ _|exact YN.firstCells _ _ _|exact YN.grown _ _ _ _ _|exact YN.wN _ _ _|exact YN.qY _ _ _ _ _ _ _|exact YN.ph _ _ _ _|exact YN.yW _ _ _ _|exact YN.A8 _|exact YN.yX _ _ _ _|exact YN.DF _ _ _ _ _ _|exact YN.AB _ _ _ _ _|exact YN.yN _ _ _ _ _|exact YN.xh _ _ _ _ _|exact YN.zE _ _ _|exact YN.ae6 _ _ _|exact YN.yI _ _ _ _|exact YN.toText _ _ _ _ _|exact YN.zeroOf _ _|exact YN.toZero _ _ _ _ _|exact YN.AP _ _ _|exact YN.C6 _|exact YN.adm _|exact YN.mY bI _ _|exact YN.sR bI _ _ _|refine YN.aC (fun _ _=>?_)|refine YN.aH (fun _=>?_)|refine YN.bind ?_ (fun _=>?_)|split))
end Go.Rn
