import Derived.Calls
import Derived.Orders
import Derived.Below
import Derived.Laws.CopyRow
import Derived.Laws.Cells
import Derived.Laws.Tables
import Derived.Laws.StructEq
import Derived.Laws.BytesString
set_option maxRecDepth 100000
set_option maxHeartbeats 8000000
set_option linter.unusedSimpArgs false
set_option linter.unusedVariables false
namespace Go.Rn
noncomputable section
inductive Tr (α:Type) where
 |nil:Tr α
 |node (l:Tr α) (v:Option α) (r:Tr α):Tr α
def Tr.na{α:Type}(p:List Bool):Tr α->Option α:= @List.rec Bool (fun _=>Tr α->Option α) (fun t=> @Tr.rec α (fun _=>Option α) none (fun _ v _ _ _=>v) t) (fun b _ ih t=> @Tr.rec α (fun _=>Option α) none (fun l _ r _ _=>ih<|@Bool.rec (fun _=>Tr α) r l b) t) p
def Tr.gm{α:Type}(v:Option α)(p:List Bool):Tr α->Tr α:=
 @List.rec Bool (fun _=>Tr α->Tr α) (fun t=> @Tr.rec α (fun _=>Tr α) (.node .nil v .nil) (fun l _ r _ _=>.node l v r) t)
  (fun b _ ih t=> @Tr.rec α (fun _=>Tr α)
   (@Bool.rec (fun _=>Tr α) (.node .nil none<|ih .nil) (.node (ih .nil) none .nil) b)
   (fun l x r _ _=> @Bool.rec (fun _=>Tr α) (.node l x<|ih r) (.node (ih l) x r) b) t) p
theorem Tr.yB{α:Type}(p:List Bool):(Tr.nil:Tr α).na p=none:=by cases p<;>rfl
theorem Tr.yn{α:Type}(l r:Tr α)(v:Option α):(Tr.node l v r).na []=v:=rfl
theorem Tr.yo{α:Type}(l r:Tr α)(v:Option α)(b:Bool)(p:List Bool):(Tr.node l v r).na (b::p)=if b=true then l.na p else r.na p:=by cases b<;>rfl
theorem Tr.u6{α:Type}(l r:Tr α)(x v:Option α)(b:Bool)(p:List Bool):Tr.gm v (b::p) (Tr.node l x r)=if b=true then .node (Tr.gm v p l) x r else .node l x (Tr.gm v p r):=by cases b<;>rfl
theorem Tr.Bt{α:Type}(v:Option α)(b:Bool)(p:List Bool):Tr.gm v (b::p) (Tr.nil:Tr α)=if b=true then .node (Tr.gm v p .nil) none .nil else .node .nil none (Tr.gm v p .nil):=by cases b<;>rfl
theorem Tr.A5{α:Type}(v:Option α):∀(p q:List Bool) (t:Tr α),(Tr.gm v p t).na q=if q=p then v else t.na q
 |[],q,t=>by
  cases t with
  |nil=>
   show(Tr.node .nil v .nil).na q=_;cases q with
   |nil=>simp[Tr.yn]
   |cons b q=>simp[Tr.yo,Tr.yB]
  |node l x r=>
   show(Tr.node l v r).na q=_;cases q with
   |nil=>simp[Tr.yn]
   |cons b q=>simp[Tr.yo]
 |a::p,q,t=>by
  cases t with
  |nil=>
   rw[Tr.Bt];cases q with
   |nil=>cases a<;>simp[Tr.yn,Tr.yB]
   |cons b q=>cases a<;>cases b<;>simp[Tr.yo,Tr.yB,Tr.A5 v p q]
  |node l x r=>
   rw[Tr.u6];cases q with
   |nil=>cases a<;>simp[Tr.yn]
   |cons b q=>cases a<;>cases b<;>simp[Tr.yo,Tr.A5 v p q]
def path(f:Nat):Nat->List Bool:= @Nat.rec (fun _=>Nat->List Bool) (fun _=>[]) (fun _ ih n=> @Bool.rec (fun _=>List Bool) (List.cons (Nat.beq (Nat.mod n 2) 1)<|ih<|Nat.div (Nat.pred n) 2) []<|Nat.beq n 0) f
theorem Bu{α:Type}(a b:α)(c:Bool): @Bool.rec (fun _=>α) a b c=if c=true then b else a:=by cases c<;>rfl
theorem beq_eq(n m:Nat):(Nat.beq n m=true)=(n=m):=by rw[Nat.beq_eq]
theorem yp(f n:Nat):path (f+1) n=if n=0 then[] else(Nat.beq (n % 2) 1)::path f ((n - 1) / 2):=by show @Bool.rec (fun _=>List Bool) (List.cons (Nat.beq (n % 2) 1)<|path f<|(n - 1) / 2) [] (Nat.beq n 0)=_;simp only[Bu,beq_eq]
theorem Gl:∀(f n m:Nat),n+1<=2 ^ f->m+1<=2 ^ f->path f n=path f m->n=m
 |0,n,m,hn,hm,_=>by simp at hn hm;omega
 |f+1,n,m,hn,hm,h=>by
  rw[yp,yp] at h;have hp:2 ^ (f+1)=2*2 ^ f:=by rw[Nat.pow_succ];omega
  by_cases h0:n=0
  ·by_cases h1:m=0
   ·omega
   ·rw[if_pos h0,if_neg h1] at h;cases h
  ·by_cases h1:m=0
   ·rw[if_neg h0,if_pos h1] at h;cases h
   ·rw[if_neg h0,if_neg h1] at h;injection h with ha hb
    have:=Gl f _ _ (by omega) (by omega) hb;have hq:(n % 2=1)=(m % 2=1):=by rw[←beq_eq, ←beq_eq,ha]
    have cZ:n % 2=1↔m % 2=1:=by rw[hq]
    omega
def top:Nat:=549755813888
def Tr.get{α:Type}(t:Tr α)(n:Nat):Option α:=Tr.na (path 40 n) t
def Tr.put{α:Type}(t:Tr α)(n:Nat)(v:Option α):Tr α:=Tr.gm v (path 40 n) t
theorem Tr.get_nil{α:Type}(n:Nat):(Tr.nil:Tr α).get n=none:=Tr.yB _
theorem Ff:∀(f k n:Nat),n+1<2 ^ k->(path f n).length<k
 |0,k,n,h=>by
  have:k≠0:=by intro e;subst e;simp at h
  show 0<k;omega
 |f+1,k,n,h=>by
  rw[yp];have hk:k≠0:=by intro e;subst e;simp at h
  by_cases h0:n=0
  ·rw[if_pos h0];show 0<k;omega
  ·rw[if_neg h0];obtain⟨j,rfl⟩:∃j,k=j+1:=⟨k - 1,by omega⟩;have hp:2 ^ (j+1)=2*2 ^ j:=by rw[Nat.pow_succ];omega
   have:=Ff f j ((n - 1) / 2) (by omega);simp only[List.length_cons];omega
theorem FH:∀(f k n:Nat),k<=f->2 ^ k<=n+1->k<=(path f n).length
 |_,0,_,_,_=>Nat.zero_le _
 |0,k+1,_,h,_=>by omega
 |f+1,k+1,n,h,hn=>by
  have hp:2 ^ (k+1)=2*2 ^ k:=by rw[Nat.pow_succ];omega
  have h1:1<=2 ^ k:=Nat.one_le_two_pow;rw[yp,if_neg<|by omega];have:=FH f k ((n - 1) / 2) (by omega) (by omega);simp only[List.length_cons];omega
theorem GW{n m:Nat}(h:n<top)(e:m≠n):path 40 m≠path 40 n:=by
 unfold top at h;by_cases hm:m+1<=2 ^ 40
 ·exact fun k=>e<|Gl 40 m n hm (by omega) k
 ·intro k;have h1:=FH 40 40 m (Nat.le_refl _) (by omega);have h2:=Ff 40 40 n (by omega);rw[k] at h1;omega
theorem Tr.mK{α:Type}(t:Tr α)(n m:Nat)(v:Option α)(h:n<top):(t.put n v).get m=if m=n then v else t.get m:=by
 unfold Tr.get Tr.put;rw[Tr.A5];by_cases e:m=n
 ·subst e;simp
 ·simp[e,GW h e]
theorem Tr.cJ{α:Type}(t:Tr α)(n m:Nat)(v:Option α)(h:n<top)(_:m<top):(t.put n v).get m=if m=n then v else t.get m:=Tr.mK t n m v h
def Tr.fill{α:Type}(l:List α):Nat->Tr α->Tr α:= @List.rec α (fun _=>Nat->Tr α->Tr α) (fun _ t=>t) (fun x _ ih i t=>ih (Nat.succ i)<|t.put i<|some x) l
theorem Tr.Bv{α:Type}:∀(l:List α) (i:Nat) (t:Tr α) (m:Nat),i+l.length<=top->m<top->
 (Tr.fill l i t).get m=if i<=m/\m<i+l.length then l[m - i]? else t.get m
 |[],i,t,m,_,_=>by show t.get m=_;simp;intro h1 h2;omega
 |x::l,i,t,m,h,hm=>by
  simp only[List.length_cons] at h;show(Tr.fill l (i+1)<|t.put i<|some x).get m=_;rw[Tr.Bv l _ _ _ (by omega) hm,Tr.cJ _ _ _ _ (by omega) hm];simp only[List.length_cons];by_cases h1:i+1<=m/\m<i+1+l.length
  ·have h2:i<=m/\m<i+(l.length+1):=by omega
   rw[if_pos h1,if_pos h2];obtain⟨k,rfl⟩:∃k,m=i+1+k:=⟨m - (i+1),by omega⟩;rw[show i+1+k - (i+1)=k from by omega,show i+1+k - i=k+1 from by omega];simp
  ·rw[if_neg h1];by_cases e:m=i
   ·subst e;simp
   ·have h2:¬(i<=m/\m<i+(l.length+1)):=by omega
    rw[if_neg e,if_neg h2]
theorem Tr.nK{α:Type}:∀(l:List α) (i:Nat) (t:Tr α) (m:Nat),i+l.length<=top->
 (Tr.fill l i t).get m=if i<=m/\m<i+l.length then l[m - i]? else t.get m
 |[],i,t,m,_=>by show t.get m=_;simp;intro h1 h2;omega
 |x::l,i,t,m,h=>by
  simp only[List.length_cons] at h;show(Tr.fill l (i+1)<|t.put i<|some x).get m=_;rw[Tr.nK l _ _ _ (by omega),Tr.mK _ _ _ _<|by omega];simp only[List.length_cons];by_cases h1:i+1<=m/\m<i+1+l.length
  ·have h2:i<=m/\m<i+(l.length+1):=by omega
   rw[if_pos h1,if_pos h2];obtain⟨k,rfl⟩:∃k,m=i+1+k:=⟨m - (i+1),by omega⟩;rw[show i+1+k - (i+1)=k from by omega,show i+1+k - i=k+1 from by omega];simp
  ·rw[if_neg h1];by_cases e:m=i
   ·subst e;simp
   ·have h2:¬(i<=m/\m<i+(l.length+1)):=by omega
    rw[if_neg e,if_neg h2]
end
end Go.Rn
namespace Go.Rn
def loose(b:Array Nat)(i j:Nat):Bool:= !((b.getD i 0).testBit j||(b.getD j 0).testBit i)
def yP(ops:Array Oper):Prop:=∀(j:Nat) (o:Oper) (e:Edge),ops[j]? =some o->e∈o.after->Region.binds .any e=true->e.on<j
def Nf(ops:Array Oper):Prop:=∀(i j:Nat) (x y:Oper) (d:Tmp),i≠j->ops[i]? =some x->ops[j]? =some y->x.dst=some d->(d∈y.looksAt ops\/y.dst=some d)->loose (Region.before ops) i j=false
structure zk (ops:Array Oper):Prop where
 HT:yP ops
 tK:Nf ops
def dx:Code->Prop
 | .seq a b=>dx a/\dx b
 | .cond _ a b=>dx a/\dx b
 | .block _ b=>dx b
 | .loop b=>dx b
 | .scope b=>dx b
 | .region _ ops draw=>draw=true->zk ops
 | .rangeFunc _ _ a b=>dx a/\dx b
 |_=>True
def y8:Item->Prop
 | .code c=>dx c
 | .inLoop b=>dx b
 | .inScope b=>dx b
 |_=>True
def eE(l:List Item):Prop:=∀it∈l,y8 it
structure vK (dA:Option Code) (assign body:Code):Prop where
 dA:∀c,dA=some c->dx c
 assign:dx assign
 body:dx body
theorem eE.cons{it:Item}{l:List Item}(h:y8 it)(k:eE l):eE<|it::l:=by
 intro x hx;rcases List.mem_cons.1 hx with rfl|hx
 ·exact h
 ·exact k x hx
theorem eE.head{it:Item}{l:List Item}(h:eE<|it::l):y8 it:=h it List.mem_cons_self
theorem eE.tail{it:Item}{l:List Item}(h:eE<|it::l):eE l:=fun x hx=>h x<|List.mem_cons_of_mem _ hx
theorem eE.nil:eE []:=fun _ h=>by cases h
theorem A6{id:Nat}:∀{k k':List Item},exitTo id k=some k'->eE k->eE k'
  |[],_,h,_=>by simp[exitTo] at h
  | it::k,k',h,hk=>by
    cases it<;>simp only[exitTo] at h<;>first
      |exact A6 h hk.tail
      | (split at h
         · injection h with h;subst h;exact hk.tail
         · exact A6 h hk.tail)
theorem JU{l:Nat}:∀{c r:Code},findLabel c l=some r->dx c->dx r:=by
 intro c;induction c with
 |seq a b rJ rK=>
  intro r h hc;simp only[findLabel] at h;cases e:findLabel a l with
  |some q=>rw[e] at h;injection h with h;subst h;exact⟨rJ e hc.1,hc.2⟩
  |none=>rw[e] at h;exact rK h hc.2
 |label l'=>
  intro r h _;simp only[findLabel] at h;split at h
  ·injection h with h;subst h;trivial
  ·cases h
 |_=>intro r h _;simp[findLabel] at h
theorem A7{l:Nat}:∀{k k':List Item},gotoIn l k=some k'->eE k->eE k'
 |[],_,h,_=>by simp[gotoIn] at h
 |it::k,k',h,hk=>by
  cases it<;>simp only[gotoIn] at h<;>first
   |exact A7 h hk.tail
   |skip
  rename_i body;cases e:findLabel body l with
  |some q=>rw[e] at h;injection h with h;subst h;exact .cons (JU e hk.head) hk
  |none=>rw[e] at h;exact A7 h hk.tail
end Go.Rn
namespace Go.Rn
inductive bc where
 |known (c:Nat)
 |bA (lo e:Nat)
 |lost
 deriving Inhabited,DecidableEq
inductive AV where
 |bool (b:Bool)
 |int (k:IntKind) (n:Int)
 |str (s:ByteArray)
 |ptr (a:Option<|Nat×Nat)
 |slice (a:Option<|Nat×Nat) (len:Nat) (cap:bc)
 |b9 (n o len:Nat)
 |jx (n o:Nat)
 |map (r:Option Nat)
 |func (fn:Fn) (first captured:List AV)
 |yield (l:Nat)
 |nilFunc
 |iface (t:TypeId) (v:AV)
 |nilIface
 |agg (cells:List AV)
 |tuple (vs:List AV)
 |oe (n:Nat)
 deriving Inhabited
abbrev ah:=Nat->Option (Nat×Nat)
def ah.le(ρ σ:ah):Prop:=∀n x,ρ n=some x->σ n=some x
theorem ah.le_refl(ρ:ah):ρ.le ρ:=fun _ _ h=>h
theorem ah.le_trans{ρ σ τ:ah}(h:ρ.le σ)(k:σ.le τ):ρ.le τ:=fun n x e=>k n x<|h n x e
def GX:Fn->Bool
 | .yield _=>false
 |_=>true
def pr(a b:Nat):Nat:=2 ^ a*(2*b+1)
theorem cR:∀{a b c d:Nat},pr a b=pr c d->a=c/\b=d
 |0,b,0,d,h=>by unfold pr at h;omega
 |0,b,c+1,d,h=>by
  unfold pr at h;have e:2 ^ (c+1)*(2*d+1)=2*(2 ^ c*(2*d+1)):=by rw[Nat.pow_succ,Nat.mul_comm (2 ^ c) 2,Nat.mul_assoc]
  rw[e] at h;omega
 |a+1,b,0,d,h=>by
  unfold pr at h;have e:2 ^ (a+1)*(2*b+1)=2*(2 ^ a*(2*b+1)):=by rw[Nat.pow_succ,Nat.mul_comm (2 ^ a) 2,Nat.mul_assoc]
  rw[e] at h;omega
 |a+1,b,c+1,d,h=>by
  have e1:pr (a+1) b=2*pr a b:=by unfold pr;rw[Nat.pow_succ,Nat.mul_comm (2 ^ a) 2,Nat.mul_assoc]
  have e2:pr (c+1) d=2*pr c d:=by unfold pr;rw[Nat.pow_succ,Nat.mul_comm (2 ^ c) 2,Nat.mul_assoc]
  obtain⟨h1,h2⟩:=cR (a:=a) (b:=b) (c:=c) (d:=d) (by omega);exact⟨by omega,h2⟩
def hn(n b sh:Nat):Nat:=top+pr n (pr b sh)
theorem eR(n b sh:Nat):top<=hn n b sh:=Nat.le_add_right _ _
theorem B8{n b sh n' b' Dz:Nat}(h:hn n b sh=hn n' b' Dz):n=n'/\b=b'/\sh=Dz:=by unfold hn at h;obtain⟨h1,h2⟩:=cR (show pr n (pr b sh)=pr n' (pr b' Dz) by omega);exact⟨h1,cR h2⟩
def kS(ρ:ah)(n b sh:Nat):Prop:=(¬top<=n/\ρ n=some (b,sh))\/(top<=n/\ρ (hn n b sh)≠none)
theorem kS.high{ρ:ah}{n b sh:Nat}(h:kS ρ n b sh)(ht:top<=n):ρ (hn n b sh)≠none:=h.elim (fun h=>absurd ht h.1) fun h=>h.2
theorem kS.low{ρ:ah}{n b sh:Nat}(h:kS ρ n b sh)(ht:¬top<=n):ρ n=some (b,sh):=h.elim (fun h=>h.2) fun h=>absurd h.1 ht
theorem kS.mono{ρ σ:ah}(h:ρ.le σ){n b sh:Nat}:kS ρ n b sh->kS σ n b sh
  | .inl ⟨a,b⟩=>.inl ⟨a,h _ _ b⟩
  | .inr ⟨a,b⟩=>.inr ⟨a,fun e=>b (by
    cases q:ρ (hn n _ sh) with
    |none=>rfl
    |some x=>rw[h _ _ q] at e;cases e)⟩
def Qz(n:Nat)(a:Option Addr)(c:Nat):Prop:=(a=none->c=0)/\(n=top->a=none)/\(n=top+1->a≠none)
mutual
def VR(ρ:ah):AV->Value->Prop
 | .bool b,v=>v= .bool b
 | .int k n,v=>v= .int k n
 | .str s,v=>v= .string s
 | .ptr none,v=>v= .pointer none
 | .ptr (some (n,o)),v=>∃b N,ρ n=some (b,N)/\v= .pointer (some ⟨b,o,none⟩)
 | .slice none len (.known c),v=>v= .slice none len c/\len=0/\c=0
 | .slice none _ (.bA _ _),_=>False
 | .slice none _ .lost,_=>False
 | .slice (some (n,_)) len .lost,v=>len=0/\∃b N o c,ρ n=some (b,N)/\v= .slice (some ⟨b,o,none⟩) 0 c
 | .slice (some (n,o)) len (.known c),v=>∃b N,ρ n=some (b,N)/\v= .slice (some ⟨b,o,none⟩) len c
 | .slice (some (n,o)) len (.bA lo e),v=>∃b N c,ρ n=some (b,N)/\v= .slice (some ⟨b,o,none⟩) len c/\lo<=c/\len<=c/\o+c*e<=N
 | .b9 n o len,v=>(top<=n/\len=0/\∃a c,v= .slice a 0 c/\Qz n a c)\/∃b sh c,kS ρ n b sh/\v= .slice (some ⟨b,sh+o,none⟩) len c/\(top<=n->len<=c/\n≠top)
 | .jx n o,v=>∃b sh,kS ρ n b sh/\v= .pointer (some ⟨b,sh+o,none⟩)
 | .map none,v=>v= .map none
 | .map (some n),v=>∃b N,ρ n=some (b,N)/\v= .map (some b)
 | .func fn first captured,v=>GX fn=true/\∃f c,v= .func fn f c/\aq ρ first f.toList/\aq ρ captured c.toList
 | .yield l,v=>∃b N,ρ l=some (b,N)/\v= .func (.yield b) #[] #[]
 | .nilFunc,v=>v= .nilFunc
 | .iface t x,v=>∃y,v= .iface t y/\VR ρ x y
 | .nilIface,v=>v= .nilIface
 | .agg l,v=>∃a,v= .agg a/\aq ρ l a.toList
 | .tuple l,v=>∃a,v= .tuple a/\aq ρ l a.toList
 | .oe n,v=>v= .string ⟨(List.replicate n (0:UInt8)).toArray⟩
def aq(ρ:ah):List AV->List Value->Prop
 |[],l=>l=[]
 |x::xs,l=>∃y ys,l=y::ys/\VR ρ x y/\aq ρ xs ys
end
mutual
theorem VR.mono{ρ σ:ah}(h:ρ.le σ):∀(x:AV) (v:Value),VR ρ x v->VR σ x v
 | .bool _,_,k=>by simpa only[VR] using k
 | .int _ _,_,k=>by simpa only[VR] using k
 | .str _,_,k=>by simpa only[VR] using k
 | .oe _,_,k=>by simpa only[VR] using k
 | .ptr none,_,k=>by simpa only[VR] using k
 | .ptr (some (n,o)),_,k=>by simp only[VR] at k ⊢;obtain⟨b,N,e,r⟩:=k;exact⟨b,N,h _ _ e,r⟩
 | .slice none len (.known c),_,k=>by simpa only[VR] using k
 | .slice none _ (.bA _ _),_,k=>by simp only[VR] at k
 | .slice none _ .lost,_,k=>by simp only[VR] at k
 | .slice (some (n,o)) len .lost,_,k=>by simp only[VR] at k ⊢;obtain⟨l,b,N,p,c,e,r⟩:=k;exact⟨l,b,N,p,c,h _ _ e,r⟩
 | .slice (some (n,o)) len (.known c),_,k=>by simp only[VR] at k ⊢;obtain⟨b,N,e,r⟩:=k;exact⟨b,N,h _ _ e,r⟩
 | .slice (some (n,o)) len (.bA lo e),_,k=>by simp only[VR] at k ⊢;obtain⟨b,N,c,e,r⟩:=k;exact⟨b,N,c,h _ _ e,r⟩
 | .b9 n o len,_,k=>by simp only[VR] at k ⊢;rcases k with k|⟨b,sh,c,e,r⟩;exact .inl k;exact .inr ⟨b,sh,c,e.mono h,r⟩
 | .jx n o,_,k=>by simp only[VR] at k ⊢;obtain⟨b,sh,e,r⟩:=k;exact⟨b,sh,e.mono h,r⟩
 | .map none,_,k=>by simpa only[VR] using k
 | .map (some n),_,k=>by simp only[VR] at k ⊢;obtain⟨b,N,e,r⟩:=k;exact⟨b,N,h _ _ e,r⟩
 | .func fn first captured,_,k=>by simp only[VR] at k ⊢;obtain⟨p,f,c,e,r,s⟩:=k;exact⟨p,f,c,e,aq.mono h _ _ r,aq.mono h _ _ s⟩
 | .yield l,_,k=>by simp only[VR] at k ⊢;obtain⟨b,N,e,r⟩:=k;exact⟨b,N,h _ _ e,r⟩
 | .nilFunc,_,k=>by simpa only[VR] using k
 | .iface t x,_,k=>by simp only[VR] at k ⊢;obtain⟨y,e,r⟩:=k;exact⟨y,e,VR.mono h _ _ r⟩
 | .nilIface,_,k=>by simpa only[VR] using k
 | .agg l,_,k=>by simp only[VR] at k ⊢;obtain⟨a,e,r⟩:=k;exact⟨a,e,aq.mono h _ _ r⟩
 | .tuple l,_,k=>by simp only[VR] at k ⊢;obtain⟨a,e,r⟩:=k;exact⟨a,e,aq.mono h _ _ r⟩
theorem aq.mono{ρ σ:ah}(h:ρ.le σ):∀(x:List AV) (v:List Value),aq ρ x v->aq σ x v
 |[],_,k=>by simpa only[aq] using k
 |x::xs,_,k=>by simp only[aq] at k ⊢;obtain⟨y,ys,e,r,s⟩:=k;exact⟨y,ys,e,VR.mono h _ _ r,aq.mono h _ _ s⟩
end
theorem aq.length{ρ:ah}:∀{x:List AV} {v:List Value},aq ρ x v->x.length=v.length
 |[],_,k=>by simp only[aq] at k;subst k;rfl
 |x::xs,_,k=>by simp only[aq] at k;obtain⟨y,ys,rfl,_,s⟩:=k;simp[aq.length s]
theorem aq.get{ρ:ah}:∀{x:List AV} {v:List Value},aq ρ x v->∀(i:Nat) (a:AV),x[i]? =some a->∃b,v[i]? =some b/\VR ρ a b
 |[],_,_,_,_,h=>by simp at h
 |x::xs,_,k,i,a,h=>by
  simp only[aq] at k;obtain⟨y,ys,rfl,r,s⟩:=k;cases i with
  |zero=>simp at h;subst h;exact⟨y,rfl,r⟩
  |succ i=>simp at h;obtain⟨b,hb,hr⟩:=aq.get s i a h;exact⟨b,by simpa using hb,hr⟩
theorem aq.append{ρ:ah}:∀{x:List AV} {v:List Value} {x':List AV} {v':List Value},aq ρ x v->aq ρ x' v'->aq ρ (x++x') (v++v')
 |[],_,_,_,k,h=>by simp only[aq] at k;subst k;simpa using h
 |x::xs,_,_,_,k,h=>by simp only[aq] at k;obtain⟨y,ys,rfl,r,s⟩:=k;simp only[List.cons_append,aq];exact⟨y,_,rfl,r,aq.append s h⟩
theorem aq.B9{ρ:ah}:∀(x:List AV) (v:List Value),x.length=v.length->(∀(i:Nat) (a:AV) (b:Value),x[i]? =some a->v[i]? =some b->VR ρ a b)->aq ρ x v
 |[],[],_,_=>by simp only[aq]
 |[],_::_,h,_=>by simp at h
 |_::_,[],h,_=>by simp at h
 |x::xs,y::ys,h,k=>by simp only[aq];exact⟨y,ys,rfl,k 0 x y rfl rfl,aq.B9 xs ys (by simpa using h) fun i a b ha hb=>k (i+1) a b (by simpa using ha)<|by simpa using hb⟩
theorem aq.take{ρ:ah}:∀(n:Nat) {x:List AV} {v:List Value},aq ρ x v->aq ρ (x.take n) (v.take n)
 |0,_,_,_=>by simp[aq]
 |n+1,[],_,k=>by simp only[aq] at k;subst k;simp[aq]
 |n+1,x::xs,_,k=>by simp only[aq] at k;obtain⟨y,ys,rfl,r,s⟩:=k;simp only[List.take_succ_cons,aq];exact⟨y,_,rfl,r,aq.take n s⟩
theorem aq.drop{ρ:ah}:∀(n:Nat) {x:List AV} {v:List Value},aq ρ x v->aq ρ (x.drop n) (v.drop n)
 |0,_,_,k=>by simpa using k
 |n+1,[],_,k=>by simp only[aq] at k;subst k;simp[aq]
 |n+1,x::xs,_,k=>by simp only[aq] at k;obtain⟨y,ys,rfl,r,s⟩:=k;simpa using aq.drop n s
def iI:AV:=.tuple []
theorem VR.undef(ρ:ah):VR ρ iI Go.undef:=by simp only[iI,Go.undef,VR,aq];exact⟨#[],rfl,rfl⟩
def AV.cells:AV->List AV
 | .agg l=>l
 |v=>[v]
theorem VR.cells{ρ:ah}{x:AV}{v:Value}(h:VR ρ x v):aq ρ x.cells v.cells.toList:=by
 cases x<;>(try (simp only[VR] at h;subst h;simp only[AV.cells,Value.cells,aq,VR];exact⟨_,_,rfl,rfl,rfl⟩))
 case ptr a=>
  cases a with
  |none=>simp only[VR] at h;subst h;simp only[AV.cells,Value.cells,aq,VR];exact⟨_,_,rfl,rfl,rfl⟩
  |some a=>obtain⟨n,o⟩:=a;have h':=h;simp only[VR] at h';obtain⟨b,N,_,rfl⟩:=h';simp only[AV.cells,Value.cells,aq];exact⟨_,_,rfl,h,rfl⟩
 case slice a len cap=>
  have:∃p q r,v= .slice p q r:=by
   cases a with
   |none=>cases cap<;>simp only[VR] at h;exact⟨_,_,_,h.1⟩
   |some a=>
    obtain⟨n,o⟩:=a;cases cap<;>simp only[VR] at h
    ·obtain⟨b,N,_,rfl⟩:=h;exact⟨_,_,_,rfl⟩
    ·obtain⟨b,N,c,_,rfl,_⟩:=h;exact⟨_,_,_,rfl⟩
    ·obtain⟨_,b,N,p,c,_,rfl⟩:=h;exact⟨_,_,_,rfl⟩
  obtain⟨p,q,r,rfl⟩:=this;simp only[AV.cells,Value.cells,aq];exact⟨_,_,rfl,h,rfl⟩
 case b9 n o len=>
  have h':=h;simp only[VR] at h';rcases h' with⟨_,_,_,_,rfl,_⟩|⟨b,sh,c,_,rfl,_⟩<;>
  (simp only[AV.cells,Value.cells,aq];exact⟨_,_,rfl,h,rfl⟩)
 case jx n o=>have h':=h;simp only[VR] at h';obtain⟨b,sh,_,rfl⟩:=h';simp only[AV.cells,Value.cells,aq];exact⟨_,_,rfl,h,rfl⟩
 case map a=>
  cases a with
  |none=>simp only[VR] at h;subst h;simp only[AV.cells,Value.cells,aq,VR];exact⟨_,_,rfl,rfl,rfl⟩
  |some a=>have h':=h;simp only[VR] at h';obtain⟨b,N,_,rfl⟩:=h';simp only[AV.cells,Value.cells,aq];exact⟨_,_,rfl,h,rfl⟩
 case func fn f c=>have h':=h;simp only[VR] at h';obtain⟨_,_,_,rfl,_⟩:=h';simp only[AV.cells,Value.cells,aq];exact⟨_,_,rfl,h,rfl⟩
 case yield l=>have h':=h;simp only[VR] at h';obtain⟨_,_,_,rfl⟩:=h';simp only[AV.cells,Value.cells,aq];exact⟨_,_,rfl,h,rfl⟩
 case iface t x=>have h':=h;simp only[VR] at h';obtain⟨_,rfl,_⟩:=h';simp only[AV.cells,Value.cells,aq];exact⟨_,_,rfl,h,rfl⟩
 case agg l=>simp only[VR] at h;obtain⟨a,rfl,k⟩:=h;simpa only[AV.cells,Value.cells] using k
 case tuple l=>have h':=h;simp only[VR] at h';obtain⟨_,rfl,_⟩:=h';simp only[AV.cells,Value.cells,aq];exact⟨_,_,rfl,h,rfl⟩
def AV.bB:AV->Bool
 | .agg _| .tuple _=>false
 |_=>true
theorem VR.bB{ρ:ah}{x:AV}{v:Value}(h:VR ρ x v)(hx:x.bB=true):∀cs,v≠ .agg cs/\v≠ .tuple cs:=by
 intro cs;cases x<;>(try (simp only[VR] at h;subst h;simp;done))<;>(try (simp[AV.bB] at hx;done))
 case ptr a=>
  cases a with
  |none=>simp only[VR] at h;subst h;simp
  |some a=>obtain⟨n,o⟩:=a;simp only[VR] at h;obtain⟨_,_,_,rfl⟩:=h;simp
 case slice a len cap=>
  cases a with
  |none=>cases cap<;>simp only[VR] at h;rw[h.1];simp
  |some a=>
   obtain⟨n,o⟩:=a;cases cap<;>simp only[VR] at h
   ·obtain⟨_,_,_,rfl⟩:=h;simp
   ·obtain⟨_,_,_,_,rfl,_⟩:=h;simp
   ·obtain⟨_,_,_,_,_,_,rfl⟩:=h;simp
 case b9 n o len=>simp only[VR] at h;rcases h with⟨_,_,_,_,rfl,_⟩|⟨_,_,_,_,rfl,_⟩<;>simp
 case jx n o=>simp only[VR] at h;obtain⟨_,_,_,rfl⟩:=h;simp
 case map a=>
  cases a with
  |none=>simp only[VR] at h;subst h;simp
  |some a=>simp only[VR] at h;obtain⟨_,_,_,rfl⟩:=h;simp
 case func fn f c=>simp only[VR] at h;obtain⟨_,_,_,rfl,_⟩:=h;simp
 case yield l=>simp only[VR] at h;obtain⟨_,_,_,rfl⟩:=h;simp
 case iface t x=>simp only[VR] at h;obtain⟨_,rfl,_⟩:=h;simp
inductive U where
 |cells (n:Nat) (t:Tr AV) (z:List AV)
 |map (es:List<|AV×AV) (aK:Nat)
 |cK (es:List<|AV×AV)
 |loop (st:LoopState) (dA:Option Code) (fn:FuncId) (tmps:Tr AV) (nt:Nat) (params:List Tmp) (assign body:Code) (defers:Nat)
 |defs
 |ro (n:Nat) (t:Tr AV)
 |lV (n:Nat) (t:Tr AV)
 |qD (s:ByteArray) (pos:Nat)
 |iter (m:Nat) (es:List<|AV×AV) (exact:Bool) (left:List<|AV×AV) (cur:Option<|AV×AV)
 |ep
 |tok (k:Nat) (v:AV)
 deriving Inhabited
noncomputable def cellAt(t:Tr AV)(z:List AV)(i:Nat):Option AV:=
 match t.get i with
 |some v=>some v
 |none=>z[i % z.length]?
def U.bN:U->Bool
 | .ro _ _=>true
 | .lV _ _=>true
 | .tok _ _=>true
 |_=>false
def U.jy:U->Bool
 | .ro _ _=>true
 | .lV _ _=>true
 |_=>false
theorem U.gO:∀{o:U},o.jy=true->o.bN=true
 | .ro _ _,_=>rfl
 | .lV _ _,_=>rfl
 | .cells _ _ _,h=>by cases h
 | .map _ _,h=>by cases h
 | .cK _,h=>by cases h
 | .loop _ _ _ _ _ _ _ _ _,h=>by cases h
 | .defs,h=>by cases h
 | .qD _ _,h=>by cases h
 | .iter _ _ _ _ _,h=>by cases h
 | .ep,h=>by cases h
 | .tok _ _,h=>by cases h
def TR(ρ:ah)(nt:Nat)(t:Tr AV)(a:Array Value):Prop:=a.size=nt/\∀i x,t.get i=some x->VR ρ x (a.getD i Go.undef)
theorem TR.mono{ρ σ:ah}(h:ρ.le σ){nt:Nat}{t:Tr AV}{a:Array Value}(k:TR ρ nt t a):TR σ nt t a:=⟨k.1,fun i x e=>VR.mono h _ _<|k.2 i x e⟩
theorem TR.set{ρ:ah}{nt:Nat}{t:Tr AV}{a:Array Value}(k:TR ρ nt t a){d:Nat}{x:AV}{v:Value}(hd:d<nt)(ht:nt<=top)(h:VR ρ x v):
 TR ρ nt (t.put d<|some x) (a.setIfInBounds d v):=by
 refine⟨by simp[k.1],fun i y hy=>?_⟩;rw[Tr.mK _ _ _ _<|by omega] at hy;by_cases e:i=d
 ·subst e;have:(a.setIfInBounds i v).getD i Go.undef=v:=by rw[Array.getD_eq_getD_getElem?,Array.getElem?_setIfInBounds_self_of_lt (by rw[k.1];exact hd)];rfl
  rw[if_pos rfl] at hy;injection hy with hy;subst hy
  rw[this];exact h
 ·have:(a.setIfInBounds d v).getD i Go.undef=a.getD i Go.undef:=by rw[Array.getD_eq_getD_getElem?,Array.getElem?_setIfInBounds_ne (by omega), ←Array.getD_eq_getD_getElem?]
  rw[if_neg e] at hy;rw[this];exact k.2 i y hy
def eC(ρ:ah):List (AV×AV)->List MapEntry->Nat->Prop
 |[],l,_=>l=[]
 |x::xs,l,i=>∃e es,l=e::es/\VR ρ x.1 e.key/\VR ρ x.2 e.val/\e.born=i/\eC ρ xs es (i+1)
theorem eC.mono{ρ σ:ah}(h:ρ.le σ):∀(x:List<|AV×AV) (l:List MapEntry) (i:Nat),eC ρ x l i->eC σ x l i
 |[],_,_,k=>k
 |x::xs,_,i,k=>by obtain⟨e,es,r,a,b,c,d⟩:=k;exact⟨e,es,r,VR.mono h _ _ a,VR.mono h _ _ b,c,eC.mono h xs es _ d⟩
def cq(ρ:ah):List (AV×AV)->List MapEntry->Prop
 |[],l=>l=[]
 |x::xs,l=>∃e es,l=e::es/\VR ρ x.1 e.key/\VR ρ x.2 e.val/\cq ρ xs es
theorem cq.mono{ρ σ:ah}(h:ρ.le σ):∀(x:List<|AV×AV) (l:List MapEntry),cq ρ x l->cq σ x l
 |[],_,k=>k
 |x::xs,_,k=>by obtain⟨e,es,r,a,b,d⟩:=k;exact⟨e,es,r,VR.mono h _ _ a,VR.mono h _ _ b,cq.mono h xs es d⟩
theorem eC.eqs{ρ:ah}:∀{x:List<|AV×AV} {l:List MapEntry} {i:Nat},eC ρ x l i->cq ρ x l
 |[],_,_,k=>k
 |_::_,_,_,k=>by obtain⟨e,es,r,a,b,_,d⟩:=k;exact⟨e,es,r,a,b,d.eqs⟩
def lh(ρ:ah)(es:List<|AV×AV)(l:List MapEntry):Prop:=∃l',l.Perm l'/\cq ρ es l'
theorem lh.mono{ρ σ:ah}(h:ρ.le σ){x:List<|AV×AV}{l:List MapEntry}(k:lh ρ x l):lh σ x l:=by obtain⟨l',p,n⟩:=k;exact⟨l',p,n.mono h⟩
def sameKey:AV->AV->Option Bool
 | .int k a,.int k' b=>match decide (k=k') with
  |true=>some<|a == b
  |false=>none
 | .str a,.str b=>some<|a == b
 | .bool a,.bool b=>some<|a == b
 |_,_=>none
def fK(es:List<|AV×AV):Prop:=es.Pairwise fun a b=>sameKey a.1 b.1=some false/\sameKey b.1 a.1=some false
def kK(l:List MapEntry)(aK:Nat):Prop:=(l.map (·.born)).Nodup/\∀e∈l,e.born<aK
def OR(ρ:ah)(N:Nat):U->Obj->Prop
 | .cells n t z,o=>∃c e,o= .cells c e (0,0)/\c.size=N/\n<=N/\∀i,i<n->∃x v,cellAt t z i=some x/\x.bB=true/\c[i]? =some v/\VR ρ x v
 | .map es aK,o=>∃l,o= .map l aK/\aK=es.length/\eC ρ es l.toList 0
 | .cK es,o=>∃l aK,o= .map l aK/\fK es/\kK l.toList aK/\lh ρ es l.toList
 | .loop st dA fn tmps nt params assign body defers,o=>∃a b M,o= .loop {state:=st,pending:=dA,fn,tmps:=a,params:=params.toArray,assign,body,defers:=b}/\TR ρ nt tmps a/\nt<=top/\ρ defers=some (b,M)/\vK dA assign body
 | .defs,o=>o= .deferred (some [])
 | .ro n t,o=>∃c e fr,o= .cells c e fr/\c.size=N/\n=N/\∀i,i<n->∃x v,t.get i=some x/\x.bB=true/\c[i]? =some v/\VR ρ x v
 | .lV n t,o=>∃c e fr,o= .cells c e fr/\∀i,i<n->∃x v,t.get i=some x/\x.bB=true/\c[N+i]? =some v/\VR ρ x v
 | .qD s pos,o=>o= .stringIter s pos
 | .iter m _ _ _ _,o=>∃b M c s,ρ m=some (b,M)/\o= .mapIter (some b) c s c
 | .ep,o=>∃l aK,o= .map l aK
 | .tok _ _,_=>True
theorem OR.mono{ρ σ:ah}(h:ρ.le σ){N:Nat}{x:U}{o:Obj}(k:OR ρ N x o):OR σ N x o:=by
 cases x<;>simp only[OR] at k ⊢
 case cells n t z=>obtain⟨c,e,r,s,u,f⟩:=k;exact⟨c,e,r,s,u,fun i hi=>let ⟨x,v,a,b,d,q⟩:=f i hi;⟨x,v,a,b,d,VR.mono h _ _ q⟩⟩
 case map es aK=>obtain⟨l,r,c,s⟩:=k;exact⟨l,r,c,eC.mono h _ _ _ s⟩
 case cK es=>obtain⟨l,c,r,a,b,s⟩:=k;exact⟨l,c,r,a,b,s.mono h⟩
 case loop st dA fn tmps nt params assign body defers=>obtain⟨a,b,M,r,s,q,u,v⟩:=k;exact⟨a,b,M,r,s.mono h,q,h _ _ u,v⟩
 case defs=>exact k
 case ro n t=>obtain⟨c,e,q,r,s,u,f⟩:=k;exact⟨c,e,q,r,s,u,fun i hi=>let ⟨x,v,a,b,d,q⟩:=f i hi;⟨x,v,a,b,d,VR.mono h _ _ q⟩⟩
 case lV n t=>obtain⟨c,e,q,r,f⟩:=k;exact⟨c,e,q,r,fun i hi=>let ⟨x,v,a,b,d,q⟩:=f i hi;⟨x,v,a,b,d,VR.mono h _ _ q⟩⟩
 case qD s pos=>exact k
 case iter m es ex left cur=>obtain⟨b,M,c,s,r,q⟩:=k;exact⟨b,M,c,s,h _ _ r,q⟩
 case ep=>exact k
def hZ(ρ:ah)(w:World)(n m:Nat)(es:List<|AV×AV)(exact:Bool)(left:List<|AV×AV)(cur:Option<|AV×AV):Prop:=
 ∃b N bm M l aK seen,ρ n=some (b,N)/\ρ m=some (bm,M)/\w.heap[b]? =some (.mapIter (some bm) aK seen aK)/\w.heap[bm]? =some (.map l aK)/\
  kK l.toList aK/\(exact=true->aK=es.length/\eC ρ es l.toList 0)/\(exact=false->fK es/\lh ρ es l.toList)/\
  lh ρ left (l.toList.filter fun e=> !seen.contains e.born)/\
  (match cur with
  |none=>seen= #[]
  |some x=>∃e,e∈l.toList/\seen.back?=some e.born/\VR ρ x.1 e.key/\VR ρ x.2 e.val)
theorem hZ.mono{ρ σ:ah}(h:ρ.le σ){w:World}{n m:Nat}{es:List<|AV×AV}{ex:Bool}{left:List<|AV×AV}{cur:Option<|AV×AV}(k:hZ ρ w n m es ex left cur):hZ σ w n m es ex left cur:=by
 obtain⟨b,N,bm,M,l,aK,seen,h1,h2,h3,h4,h5,h6,h7,h8,h9⟩:=k;refine⟨b,N,bm,M,l,aK,seen,h _ _ h1,h _ _ h2,h3,h4,h5,fun e=>⟨(h6 e).1,(h6 e).2.mono h⟩,fun e=>⟨(h7 e).1,(h7 e).2.mono h⟩,h8.mono h,?_⟩;cases cur with
 |none=>exact h9
 |some x=>obtain⟨e,a,b,c,d⟩:=h9;exact⟨e,a,b,VR.mono h _ _ c,VR.mono h _ _ d⟩
structure aC where
 may:Nat->Prop
 F:Nat->Option (List AV)
 bD:Nat->Prop
 inv:Nat->AV->ah->World->Nat->(Nat->Prop)->Prop
 oA:Nat
 mono:∀{k v ρ σ w w' b H},inv k v ρ w b H->(∀m x,top<=m->ρ m=some x->σ m=some x)->(∀x,H x->w'.heap[x]? =w.heap[x]?)->inv k v σ w' b H
def NZ(W:World):aC:=⟨fun k=>W.heap.size<=k,fun _=>none,fun _=>True,fun _ _ _ _ _ _=>False,W.heap.size,fun h _ _=>h⟩
def iz(ρ:ah)(h:Tr U)(b:Nat):Prop:=∀m o N,m<top->h.get m=some o->o.bN=false->ρ m≠some (b,N)
def dU(ρ:ah):ah:=fun k=>if top<=k then ρ k else none
theorem Ca(ρ:ah):(dU ρ).le ρ:=by
 intro k x e;unfold dU at e;split at e
 ·exact e
 ·cases e
theorem Gm{ρ σ:ah}(h:ρ.le σ):(dU ρ).le<|dU σ:=by
 intro k x e;unfold dU at e ⊢;split at e
 ·rename_i q;rw[if_pos q];exact h _ _ e
 ·cases e
def Fz(B:aC)(ρ:ah)(h:Tr U)(w:World):Prop:=∀n b sh,ρ (hn n b sh)≠none->(B.bD (hn n b sh)\/B.may b)/\∃l c e fr,B.F n=some l/\w.heap[b]? =some (.cells c e fr)/\iz ρ h b/\∀i x,l[i]? =some x->∃v,c[sh+i]? =some v/\VR (dU ρ) x v/\x.bB=true
def nk(B:aC)(ρ:ah)(h:Tr U)(w:World):Prop:=(B.oA<=w.heap.size/\∀m o,m<top->h.get m=some o->o.jy=true->∃b N,ρ m=some (b,N)/\b<B.oA)/\∃H:Nat->Nat->Prop,(∀n k v,n<top->h.get n=some (.tok k v)->∃b N,ρ n=some (b,N)/\B.inv k v ρ w b (H n)/\H n b/\∀x,H n x->(x<w.heap.size/\B.oA<=x)/\B.may x/\iz ρ h x/\∀j sh,ρ (hn j x sh)=none)/\∀n m x k v k' v',n<top->m<top->h.get n=some (.tok k v)->h.get m=some (.tok k' v')->n≠m->H n x->¬H m x
theorem nk.of{B:aC}{ρ σ:ah}{h h':Tr U}{w w':World}(f:nk B ρ h w)(hl:ρ.le σ)(ht:∀n o,n<top->h'.get n=some o->o.bN=true->h.get n=some o)(hs:w.heap.size<=w'.heap.size)(hw:∀b,b<w.heap.size->iz ρ h b->w'.heap[b]? =w.heap[b]?)(hd:∀b,b<w.heap.size->iz ρ h b->iz σ h' b)(hm:∀j x sh,x<w.heap.size->iz ρ h x->ρ (hn j x sh)=none->σ (hn j x sh)=none):nk B σ h' w':=by
 obtain⟨h0,H,h1,h2⟩:=f;refine⟨⟨Nat.le_trans h0.1 hs,fun m o cO hg hf=>?_⟩,H,fun n k v hn hg=>?_,fun n m x k v k' v' hn cO g1 g2=>h2 n m x k v k' v' hn cO (ht _ _ hn g1 rfl)<|ht _ _ cO g2 rfl⟩
 ·obtain⟨b,N,e1,e2⟩:=h0.2 m o cO (ht _ _ cO hg<|U.gO hf) hf;exact⟨b,N,hl _ _ e1,e2⟩
 obtain⟨b,N,a1,a2,a3,a4⟩:=h1 n k v hn<|ht _ _ hn hg rfl;refine⟨b,N,hl _ _ a1,B.mono a2 (fun m x _ e=>hl _ _ e) fun x hx=>?_,a3,fun x hx=>?_⟩
 ·obtain⟨⟨c1,_⟩,_,c3,_⟩:=a4 x hx;exact hw x c1 c3
 ·obtain⟨⟨c1,cl⟩,c2,c3,c4⟩:=a4 x hx;exact⟨⟨Nat.lt_of_lt_of_le c1 hs,cl⟩,c2,hd x c1 c3,fun j sh=>hm j x sh c1 c3<|c4 j sh⟩
theorem nk.no{B:aC}{ρ:ah}{h:Tr U}{w:World}(hn:∀n k v,n<top->h.get n=some (.tok k v)->False)(hl:B.oA<=w.heap.size/\∀m o,m<top->h.get m=some o->o.jy=true->∃b N,ρ m=some (b,N)/\b<B.oA):nk B ρ h w:=⟨hl,fun _ _=>False,fun n k v ht hg=>(hn n k v ht hg).elim,fun n _ _ k v _ _ ht _ hg _ _ _=>(hn n k v ht hg).elim⟩
structure Rel (B:aC) (ρ:ah) (h:Tr U) (w:World):Prop where
 is:∀n o,n<top->h.get n=some o->∃b N o',ρ n=some (b,N)/\w.heap[b]? =some o'/\OR ρ N o o'/\(o.bN=false->B.may b)
 one:∀n m o p b N M,n<top->m<top->h.get n=some o->h.get m=some p->(o.bN=false\/p.bN=false)->ρ n=some (b,N)->ρ m=some (b,M)->n=m
 iter:∀n m es ex left cur,n<top->h.get n=some (.iter m es ex left cur)->m<top/\h.get m=some .ep/\hZ ρ w n m es ex left cur
 size:∀k,w.heap.size<=k->B.may k
 lone:∀i j m es ex left cur dD eW eJ eL,i<top->j<top->h.get i=some (.iter m es ex left cur)->h.get j=some (.iter m dD eW eJ eL)->i=j
 fz:Fz B ρ h w
 tk:nk B ρ h w
end Go.Rn
namespace Go.Rn
structure AS where
 h:Tr U
 nx:Nat
 mark:Nat
 rd:List Nat
 wr:List Nat
inductive R (α:Type) where
 |bad
 |ok (a:α) (s:AS)
def M(α:Type):Type:=AS->R α
noncomputable def M.pure{α:Type}(a:α):M α:=fun s=>.ok a s
noncomputable def M.bind{α β:Type}(m:M α)(f:α->M β):M β:=fun s=> @R.rec α (fun _=>R β) .bad (fun a s1=>f a s1)<|m s
noncomputable instance:Monad M where
 pure:=M.pure
 bind:=M.bind
noncomputable def fail{α:Type}:M α:=fun _=>.bad
noncomputable def lift{α:Type}(o:Option α):M α:=fun s=> @Option.rec α (fun _=>R α) .bad (fun a=>.ok a s) o
noncomputable def aA{α β:Type}(o:Option α)(f:α->M β):M β:=fun s=> @Option.rec α (fun _=>R β) .bad (fun a=>f a s) o
noncomputable def eV(b:Bool):M Unit:=fun s=> @Bool.rec (fun _=>R Unit) .bad (.ok () s) b
noncomputable def ay{β:Type}(b:Bool)(m:M β):M β:=fun s=> @Bool.rec (fun _=>R β) .bad (m s) b
noncomputable def forced{α:Type}(n:Nat)(k:Nat->α):α:= @Nat.rec (fun _=>α) (k 0) (fun m _=>k<|m+1) n
theorem o3{α:Type}(n:Nat)(k:Nat->α):forced n k=k n:=by cases n<;>rfl
noncomputable def aY(n:Nat):M U:=fun s=>
 @AS.rec (fun _=>R U) (fun h nx mark rd wr=>
  @Bool.rec (fun _=>R U) .bad
   (@Option.rec U (fun _=>R U) .bad
    (fun o=> @Bool.rec (fun _=>R U) (.ok o ⟨h,nx,mark,rd,wr⟩) (.ok o ⟨h,nx,mark,n::rd,wr⟩)<|Nat.blt n mark)
    (h.get n))
   (Nat.blt n nx)) s
noncomputable def aZ(n:Nat)(o:Option U):M Unit:=fun s=>
 @AS.rec (fun _=>R Unit) (fun h nx mark rd wr=>
  @Bool.rec (fun _=>R Unit) .bad
   (@Option.rec U (fun _=>R Unit) .bad
    (fun p=> @Bool.rec (fun _=>R Unit)
     (@Bool.rec (fun _=>R Unit) (.ok () ⟨h.put n o,nx,mark,rd,wr⟩) (.ok () ⟨h.put n o,nx,mark,n::rd,n::wr⟩)<|Nat.blt n mark)
     .bad p.bN)
    (h.get n))
   (and (Nat.blt n nx)<|Nat.blt n top)) s
noncomputable def cN(o:U):M Nat:=fun s=> @AS.rec (fun _=>R Nat) (fun h nx mark rd wr=> @Bool.rec (fun _=>R Nat) .bad (forced nx fun m=>.ok m ⟨h.put m<|some o,m+1,mark,rd,wr⟩)<|Nat.blt nx top) s
end Go.Rn
namespace Go.Rn
noncomputable section
def vM:Value->Option AV
 | .bool b=>some<|.bool b
 | .int k n=>some<|.int k n
 | .string s=>some<|.str s
 | .pointer none=>some<|.ptr none
 | .slice none len cap=>match Nat.beq len 0&&Nat.beq cap 0 with
  |true=>some<|.slice none 0<|.known 0
  |false=>none
 | .map none=>some<|.map none
 | .nilFunc=>some .nilFunc
 | .nilIface=>some .nilIface
 |_=>none
def nP:List Value->Option (List AV)
 |[]=>some []
 |v::l=>match vM v with
  |none=>none
  |some x=>match nP l with
   |none=>none
   |some r=>some<|x::r
def ofValue:Value->Option AV
 | .agg cs=>match nP cs.toList with
  |none=>none
  |some l=>some<|.agg l
 | .tuple cs=>match nP cs.toList with
  |none=>none
  |some l=>some<|.tuple l
 |v=>vM v
def fw:Nat:=256
def ak(t:Tr AV)(x:Operand):Option AV:= @Operand.rec (fun _=>Option AV) (fun i=>t.get i) (fun v=>ofValue v) (fun g=> @Bool.rec (fun _=>Option AV) none (some<|.ptr<|some (g,0))<|Nat.blt g fw) (fun f=>some<|.func (.func f) [] []) x
def bW(P:Program)(t:TypeId):Option Nat:=
 match P.info? t with
 |none=>none
 |some i=>some i.size
def eT(P:Program)(t:TypeId):Option AV:=
 match P.info? t with
 |none=>none
 |some i=>match i.zero with
  |none=>none
  |some v=>ofValue v
def ke(P:Program)(t:TypeId):Option Bool:=
 match P.underlying t with
 |some (.struct _)=>some true
 |some (.array _ _)=>some true
 |some _=>some false
 |none=>none
def eF(t:Tr AV)(z:List AV):Nat->Nat->Option (List AV)
 |0,_=>some []
 |k+1,off=>match cellAt t z off with
  |none=>none
  |some v=>match eF t z k (off+1) with
   |none=>none
   |some l=>some<|v::l
def dG(n off:Nat):Nat->M (List AV)
 |0=>M.pure []
 |k+1=>(aY n).bind fun o=>match o with
  | .cells m t z=>ay (Nat.ble (off+(k+1)) m) <| lift<|eF t z (k+1) off
  | .ro m t=>ay (Nat.ble (off+(k+1)) m) <| lift<|eF t [] (k+1) off
  |_=>fail
def jg(n off:Nat)(l:List AV):M Unit:=
  match l with
  |[]=>M.pure ()
  | x ::r=>(aY n).bind fun o=>match o with
    | .cells m t z=>ay (and (Nat.ble (off+(r.length+1)) m)<|and (Nat.ble m top)<|(x::r).all AV.bB) <|
      aZ n (some<|.cells m (Tr.fill (x::r) off t) z)
    |_=>fail
def newRow(l:List AV):M Nat:=ay (and (Nat.ble l.length top)<|l.all AV.bB) <| cN<|.cells l.length (Tr.fill l 0 .nil) []
def one:List AV->Option AV
 |[v]=>some v
 |_=>none
def loadVar(P:Program)(t:TypeId)(n off:Nat):M AV:=
 aA (ke P t) fun ag=>match ag with
  |true=>aA (bW P t) fun k=>(dG n off k).bind fun l=>M.pure<|.agg l
  |false=>(dG n off 1).bind fun l=>lift<|one l
def storeVar(P:Program)(t:TypeId)(n off:Nat)(v:AV):M Unit:=aA (bW P t) fun k=>ay (Nat.beq v.cells.length k) <| jg n off v.cells
def addrOf:AV->Option (Nat×Nat)
 | .ptr (some a)=>some a
 |_=>none
def intOf:AV->Option Int
 | .int _ n=>some n
 |_=>none
def vN:AV->Option Bool
 | .bool b=>some b
 |_=>none
def ia(P:Program)(t:TypeId)(cs:List AV)(off:Nat):Option AV:=
 match ke P t with
 |none=>none
 |some true=>match bW P t with
  |none=>none
  |some k=>some<|.agg<|(cs.drop off).take k
 |some false=>cs[off]?
def vp:List AV->List AV->Nat->List AV
 |cs,[],_=>cs
 |cs,c::l,off=>vp (cs.set off c) l<|off+1
def nT(place:Nat->Option (Nat×Nat)):List AV->List (Nat×AV)->Option (List AV)
 |cells,[]=>some cells
 |cells,(i,v)::rest=>match place i with
  |none=>none
  |some (off,size)=>
   match Nat.beq v.cells.length size&&Nat.ble (off+v.cells.length) cells.length with
   |false=>none
   |true=>nT place (vp cells v.cells off) rest
def eB(ev:Operand->Option AV):List Operand->Option (List AV)
 |[]=>some []
 |x::l=>match ev x with
  |none=>none
  |some v=>match eB ev l with
   |none=>none
   |some r=>some<|v::r
def mV(ev:Operand->Option AV):List (Nat×Operand)->Option (List<|Nat×AV)
 |[]=>some []
 |(i,x)::l=>match ev x with
  |none=>none
  |some v=>match mV ev l with
   |none=>none
   |some r=>some<|(i,v)::r
def qE(P:Program):List Field->Option (List<|Nat×Nat)
 |[]=>some []
 |f::l=>match bW P f.type with
  |none=>none
  |some k=>match qE P l with
   |none=>none
   |some r=>some<|(f.offset,k)::r
def build(P:Program)(t:TypeId)(parts:List<|Nat×AV):Option AV:=
 match eT P t with
 |none=>none
 |some z=>match P.underlying t with
  |some (.struct fs)=>match qE P fs.toList with
   |none=>none
   |some pl=>match nT (fun i=>pl[i]?) z.cells parts with
    |none=>none
    |some l=>some<|.agg l
  |some (.array _ e)=>match bW P e with
   |none=>none
   |some k=>match nT (fun i=>some (i*k,k)) z.cells parts with
    |none=>none
    |some l=>some<|.agg l
  |_=>none
def s9:Nat->List AV->List AV
 |0,_=>[]
 |n+1,z=>z++s9 n z
def buildSlice(P:Program)(t:TypeId)(len:Nat)(parts:List<|Nat×AV):M AV:=do
  match P.underlying t with
  | some (.slice e)=>do
    let k ←lift (bW P e)
    let z ←lift (eT P e)
    eV (Nat.ble (len*k) 1048576&&Nat.beq z.cells.length k)
    let l ←lift (nT (fun i=>some (i*k,k)) (s9 len z.cells) parts)
    let r ←newRow l
    pure (.slice (some (r,0)) len<|.known len)
  |_=>fail
def fieldAddr(P:Program)(s:TypeId)(x:AV)(field:Nat):Option AV:=
 match P.underlying s with
 |some (.struct fs)=>match fs[field]? with
  |none=>none
  |some f=>match bW P f.type with
   |none=>none
   |some k=>match Nat.beq k 0 with
    |true=>none
    |false=>match x with
     | .ptr (some (n,o))=>some<|.ptr<|some (n,o+f.offset)
     | .jx n o=>some<|.jx n<|o+f.offset
     |_=>none
 |_=>none
def GY(P:Program)(s:TypeId)(x:AV)(field:Nat):Option AV:=
 match P.underlying s,x with
 |some (.struct fs),.agg cs=>match fs[field]? with
  |none=>none
  |some f=>ia P f.type cs f.offset
 |_,_=>none
def within(i:Int)(len:Nat):Option Nat:=
 match i with
 | .ofNat n=>match Nat.blt n len with
  |true=>some n
  |false=>none
 | .negSucc _=>none
def indexAddr(P:Program)(t:TypeId)(x ix:AV):Option AV:=
 match intOf ix with
 |none=>none
 |some i=>match P.underlying t,x with
  |some (.array len e),.ptr (some (n,o))=>match within i len,bW P e with
   |some j,some k=>some<|.ptr<|some (n,o+j*k)
   |_,_=>none
  |some (.slice e),.slice (some (n,o)) len _=>match within i len,bW P e with
   |some j,some k=>some<|.ptr<|some (n,o+j*k)
   |_,_=>none
  |some (.slice e),.b9 n o len=>match within i len,bW P e with
   |some j,some k=>some<|.jx n<|o+j*k
   |_,_=>none
  |_,_=>none
def indexOf(P:Program)(t:TypeId)(x ix:AV):Option AV:=
 match intOf ix with
 |none=>none
 |some i=>match P.underlying t,x with
  |some (.array len e),.agg cs=>match within i len,bW P e with
   |some j,some k=>ia P e cs<|j*k
   |_,_=>none
  |some .string,.str s=>match within i s.size with
   |some j=>match s.data.toList[j]? with
    |some b=>some<|.int .u8 b.toNat
    |none=>none
   |none=>none
  |_,_=>none
def bound(x:Option AV)(kf PF:Nat):Option Nat:=
 match x with
 |none=>some PF
 |some v=>match intOf v with
  |none=>none
  |some i=>within i<|kf+1
def opt(ev:Operand->Option AV):Option Operand->Option (Option AV)
 |none=>some none
 |some x=>match ev x with
  |none=>none
  |some v=>some<|some v
def eG(len:Nat)(c:bc):Nat:=
 match c with
 | .known c=>c
 | .bA lo _=>lo
 | .lost=>len
def slice3(k:Nat)(a:Option<|Nat×Nat)(low:Nat)(lo hi:Option AV)(mx:AV):Option AV:=
 match bound (some mx) low 0 with
 |none=>none
 |some m=>match hi with
  |none=>none
  |some hi=>match bound (some hi) m 0 with
   |none=>none
   |some h=>match bound lo h 0 with
    |none=>none
    |some l=>match a with
     |none=>some<|.slice none (h - l)<|.known<|m - l
     |some (n,o)=>match Nat.beq m l with
      |true=>some<|.slice (some (n,o)) (h - l)<|.known<|m - l
      |false=>some<|.slice (some (n,o+l*k)) (h - l)<|.known<|m - l
def kG(P:Program)(t:TypeId)(x:AV)(lo hi mx:Option AV):Option AV:=
 match P.underlying t,x with
 |some .string,.str s=>match mx with
  |some _=>none
  |none=>match bound hi s.size s.size with
   |none=>none
   |some h=>match bound lo h 0 with
    |none=>none
    |some l=>some<|.str<|s.extract l h
 |some (.slice e),.slice a len cap=>
  match bW P e with
  |none=>none
  |some k=>
   match mx with
   |some mx=>match cap with
    | .lost=>none
    |cap=>slice3 k a (eG len cap) lo hi mx
   |none=>
    match bound hi (eG len cap) len with
    |none=>none
    |some h=>match bound lo h 0 with
     |none=>none
     |some l=>match a,cap with
      |none,.known c=>some<|.slice none (h - l)<|.known<|c - l
      |none,_=>none
      |some (n,o),.known c=>match Nat.beq c l with
       |true=>some<|.slice (some (n,o)) (h - l)<|.known<|c - l
       |false=>some<|.slice (some (n,o+l*k)) (h - l)<|.known<|c - l
      |some (n,o),.bA b e=>match Nat.beq l 0 with
       |true=>some<|.slice (some (n,o)) (h - l)<|.bA b e
       |false=>match Nat.beq e k&&Nat.blt l b with
        |true=>some<|.slice (some (n,o+l*k)) (h - l)<|.bA (b - l) e
        |false=>match Nat.beq (h - l) 0 with
         |true=>some<|.slice (some (n,o)) 0 .lost
         |false=>none
      |some (n,o),.lost=>match Nat.beq h 0 with
       |true=>some<|.slice (some (n,o)) 0 .lost
       |false=>none
 |some (.slice e),.b9 n o len=>match bW P e with
  |none=>none
  |some k=>match mx with
   |some _=>none
   |none=>match bound hi len len with
    |none=>none
    |some h=>match bound lo h 0 with
     |none=>none
     |some l=>match Nat.ble top n with
      |true=>some<|.b9 n (o+l*k)<|h - l
      |false=>none
 |some (.array len e),.ptr (some (n,o))=>
  match bW P e with
  |none=>none
  |some k=>match mx with
   |some _=>none
   |none=>match bound hi len len with
    |none=>none
    |some h=>match bound lo h 0 with
     |none=>none
     |some l=>match Nat.beq len l with
      |true=>some<|.slice (some (n,o)) (h - l)<|.known<|len - l
      |false=>some<|.slice (some (n,o+l*k)) (h - l)<|.known<|len - l
 |_,_=>none
def room:Nat:=140737488355328
def makeSlice(P:Program)(t:TypeId)(len cap:AV):M AV:=
 match P.underlying t with
 |some (.slice e)=>
  aA (intOf len) fun l=>aA (intOf cap) fun c=>aA (P.info? e) fun i=>aA (within c room) fun c=>aA (within l<|c+1) fun l=>aA (eT P e) fun z=>
  ay (and (Nat.ble (c*i.bytes) room)<|and (Nat.ble (c*i.size) top)<|and (or (Nat.beq (c*i.size) 0)<|not<|Nat.beq z.cells.length 0)<|z.cells.all AV.bB) <|
  (cN<|.cells (c*i.size) .nil z.cells).bind fun r=>M.pure<|.slice (some (r,0)) l<|.known c
 |_=>fail
def yq(s:ByteArray):List AV:=s.data.toList.map fun b=>.int .u8 b.toNat
def firstCells(size n:Nat):AV->M (List AV)
 | .slice (some _) 0 .lost=>ay (Nat.beq n 0) <| M.pure []
 | .slice (some (m,o)) _ _=>dG m o<|n*size
 | .slice none _ _=>M.pure []
 | .str s=>M.pure<|(yq s).take n
 |_=>fail
def bytesOf:List AV->Option (List UInt8)
 |[]=>some []
 | .int .u8 n::l=>match bytesOf l with
  |none=>none
  |some r=>some<|n.toNat.toUInt8::r
 |_::_=>none
def lenOf:AV->Option Nat
 | .slice _ n _=>some n
 | .str s=>some s.size
 |_=>none
def grown(size bytes gS:Nat)(bD new:List AV):M AV:=
 ay (and (Nat.ble (2*gS*bytes+4096*bytes) room)<|not<|Nat.beq bytes 0) <|
 (newRow<|bD++new).bind fun r=>M.pure<|.slice (some (r,0)) gS<|.bA gS size
def nL(n off:Nat)(l:List AV):M Unit:=
  match l with
  |[]=>M.pure ()
  | x ::r=>(aY n).bind fun o=>match o with
    | .cells m t z=>ay (and (Nat.ble off m)<|and (Nat.ble (max m<|off+(r.length+1)) top)<|(x::r).all AV.bB) <|
      aZ n (some<|.cells (max m<|off+(r.length+1)) (Tr.fill (x::r) off t) z)
    |_=>fail
def U.o9:U->Bool
 | .cells _ _ _=>true
 |_=>false
def lI(i:TypeInfo):Bool:=
 match i.zero with
 |none=>false
 |some v=>Nat.beq v.cells.size i.size
def kz(size bytes:Nat)(base:Option<|Nat×Nat)(len:Nat)(cap:bc)(n:Nat)(new:List AV):M AV:=
 match cap with
 | .known c=>match Nat.ble (len+n) c with
  |true=>(match base with
   |some (m,o)=>jg m (o+len*size) new
   |none=>M.pure ()).bind fun _=>M.pure (.slice base (len+n)<|.known c)
  |false=>(firstCells size len<|.slice base len<|.known c).bind fun bD=>grown size bytes (len+n) bD new
 | .bA lo sz=>ay (Nat.beq sz size) <| match Nat.ble (len+n) lo with
  |true=>match base with
   |some (m,o)=>(nL m (o+len*size) new).bind fun _=>M.pure<|.slice (some (m,o)) (len+n)<|.bA lo sz
   |none=>fail
  |false=>match base with
   |some (m,0)=>(dG m 0<|len*size).bind fun bD=>(aY m).bind fun o=>ay o.o9 <| (aZ m none).bind fun _=>grown size bytes (len+n) bD new
   |_=>fail
 | .lost=>fail
def jk(P:Program)(t:Option TypeId):Bool:=
 match t with
 |none=>true
 |some t=>match P.underlying t with
  |some (.int _)=>false
  |some _=>true
  |none=>false
def ji(P:Program)(argTypes:Array TypeId)(s x:AV):M AV:=
 aA argTypes[0]? fun t=>match P.underlying t,s with
 |some (.slice e),.slice base len cap=>
  aA (P.info? e) fun i=>ay (and (lI i)<|jk P argTypes[1]?) <| aA (lenOf x) fun n=>(firstCells i.size n x).bind fun new=>
  ay (Nat.beq new.length<|n*i.size) <| kz i.size i.bytes base len cap n new
 |_,_=>fail
def Ng:AV->Bool
 | .slice _ _ .lost=>false
 |_=>true
def pf(P:Program)(argTypes:Array TypeId)(d x:AV):M AV:=
 aA argTypes[0]? fun t=>match P.underlying t,d with
 |some (.slice e),.slice base len cap=>
  aA (bW P e) fun k=>aA (lenOf x) fun m=>ay (Ng<|.slice base len cap) <| (firstCells k (Nat.min m len) x).bind fun cells=>
  (match base with
  |some (r,o)=>jg r o cells
  |none=>M.pure ()).bind fun _=>M.pure (.int .i64 (Nat.min m len:Nat))
 |_,_=>fail
def eqFields(P:Program)(eq:TypeId->AV->AV->Option Bool)(xs ys:List AV):List Field->Option Bool
 |[]=>some true
 |f::l=>match f.name == "_" with
  |true=>eqFields P eq xs ys l
  |false=>match ia P f.type xs f.offset,ia P f.type ys f.offset with
   |some a,some b=>match eq f.type a b with
    |none=>none
    |some false=>some false
    |some true=>eqFields P eq xs ys l
   |_,_=>none
def vF(P:Program)(eq:TypeId->AV->AV->Option Bool)(t:TypeId)(k:Nat)(xs ys:List AV):Nat->Nat->Option Bool
 |0,_=>some true
 |n+1,i=>match ia P t xs (i*k),ia P t ys (i*k) with
  |some a,some b=>match eq t a b with
   |none=>none
   |some false=>some false
   |some true=>vF P eq t k xs ys n<|i+1
  |_,_=>none
def C4(n len:Nat):Option Bool:=match len with
 |0=>match Nat.beq n top with
  |true=>some true
  |false=>match Nat.beq n (top+1) with
   |true=>some false
   |false=>none
 |_+1=>some false
def fZ(P:Program):Nat->TypeId->AV->AV->Option Bool
 |0,_,_,_=>none
 |d+1,t,x,y=>
  match P.underlying t,x,y with
  |some .bool,.bool a,.bool b=>some<|a == b
  |some (.int _),.int k a,.int k' b=>match decide (k=k') with
   |true=>some<|a == b
   |false=>none
  |some .string,.str a,.str b=>some<|a == b
  |some (.pointer _),.ptr none,.ptr b=>some b.isNone
  |some (.pointer _),.ptr (some _),.ptr none=>some false
  |some (.interface _),.nilIface,.nilIface=>some true
  |some (.interface _),.nilIface,.iface _ _=>some false
  |some (.interface _),.iface _ _,.nilIface=>some false
  |some (.struct fs),.agg xs,.agg ys=>match P.stoodInHeld t with
   |true=>none
   |false=>eqFields P (fZ P d) xs ys fs.toList
  |some (.array n e),.agg xs,.agg ys=>match bW P e with
   |none=>none
   |some k=>vF P (fZ P d) e k xs ys n 0
  |some (.slice _),.slice none _ _,.slice b _ _=>some b.isNone
  |some (.slice _),.slice (some _) _ _,.slice none _ _=>some false
  |some (.slice _),.b9 n _ len,.slice none _ _=>C4 n len
  |some (.map _ _),.map none,.map b=>some b.isNone
  |some (.map _ _),.map (some _),.map none=>some false
  |some (.func _ _ _),.nilFunc,.nilFunc=>some true
  |some (.func _ _ _),.nilFunc,.func _ _ _=>some false
  |some (.func _ _ _),.func _ _ _,.nilFunc=>some false
  |_,_,_=>none
def isConst:Operand->Bool
 | .const _=>true
 |_=>false
def A8(P:Program)(t:TypeId)(x y:Operand)(a b:AV):Bool:=
 match a,b with
 | .nilIface,.nilIface=>isConst x||isConst y
 | .agg _,.agg _=> !P.eqGuardType P.depth t
 |_,_=>true
def po(op:BinOp)(k:IntKind)(a b:Int):Option AV:=
 match op with
 | .add=>some<|.int k<|k.wrap<|a+b
 | .sub=>some<|.int k<|k.wrap<|a - b
 | .mul=>some<|.int k<|k.wrap<|a*b
 | .quo=>match decide (b=0) with
  |true=>none
  |false=>some<|.int k<|k.wrap<|a.tdiv b
 | .rem=>match decide (b=0) with
  |true=>none
  |false=>some<|.int k<|a.tmod b
 | .and=>some<|.int k<|k.wrap (BitVec.ofInt k.bits a&&& BitVec.ofInt k.bits b).toNat
 | .or=>some<|.int k<|k.wrap (BitVec.ofInt k.bits a|||BitVec.ofInt k.bits b).toNat
 | .xor=>some<|.int k<|k.wrap (BitVec.ofInt k.bits a ^^^ BitVec.ofInt k.bits b).toNat
 | .andNot=>some<|.int k<|k.wrap (BitVec.ofInt k.bits a&&& ~~~BitVec.ofInt k.bits b).toNat
 | .eql=>some<|.bool<|a == b
 | .neq=>some<|.bool<|a != b
 | .lss=>some<|.bool<|a<b
 | .leq=>some<|.bool<|a<=b
 | .gtr=>some<|.bool<|a>b
 | .geq=>some<|.bool<|a>=b
 |_=>none
def yQ(op:BinOp)(k:IntKind)(x y:Int):Option AV:=
 match decide (y<0) with
 |true=>none
 |false=>match op with
  | .shl=>some<|.int k<|k.wrap<|x*2 ^ min y.toNat k.bits
  | .shr=>some<|.int k<|x.fdiv<|2 ^ min y.toNat k.bits
  |_=>none
def Cy(op:BinOp)(x y:ByteArray):Option AV:=
 match op with
 | .add=>match Nat.ble (x.size+y.size) room with
  |true=>some<|.str<|x++y
  |false=>none
 | .eql=>some<|.bool<|x.toList == y.toList
 | .neq=>some<|.bool<|!(x.toList == y.toList)
 | .lss=>some<|.bool<|Op.bytesLess x.toList y.toList
 | .leq=>some<|.bool<|Op.bytesLess x.toList y.toList||x.toList == y.toList
 | .gtr=>some<|.bool<|!(Op.bytesLess x.toList y.toList||x.toList == y.toList)
 | .geq=>some<|.bool<|!Op.bytesLess x.toList y.toList
 |_=>none
def kH:BinOp->Bool
 | .shl| .shr=>true
 |_=>false
def jl(P:Program)(op:BinOp)(t:TypeId)(x y:AV):Option AV:=
 match x,y with
 | .int k a,.int k' b=>match kH op with
  |true=>yQ op k a b
  |false=>match decide (k=k') with
   |true=>po op k a b
   |false=>none
 | .str a,.str b=>Cy op a b
 |x,y=>match op with
  | .eql=>match fZ P Op.maxDepth t x y with
   |none=>none
   |some b=>some<|.bool b
  | .neq=>match fZ P Op.maxDepth t x y with
   |none=>none
   |some b=>some<|.bool !b
  |_=>none
def HU(op:UnOp)(x:AV):Option AV:=
 match op,x with
 | .neg,.int k n=>po .sub k 0 n
 | .xor,.int k n=>po .xor k (match k.signed with|true=> -1|false=>k.max) n
 | .not,.bool b=>some<|.bool !b
 |_,_=>none
def Bw(P:Program)(src dst:TypeId)(x:AV):Option AV:=
 match P.underlying src,P.underlying dst,x with
 |some _,some (.int k),.int _ n=>some<|.int k<|k.wrap n
 |some _,some .string,.str s=>some<|.str s
 |_,_,_=>none
def plainKey(P:Program)(t:TypeId)(key:AV):Bool:=
 match P.underlying t,key with
 |some (.int _),.int _ _=>true
 |some .string,.str _=>true
 |some .bool,.bool _=>true
 |_,_=>false
def dH(key:AV):List (AV×AV)->Nat->Option (Option<|Nat×AV)
 |[],_=>some none
 |(k,v)::l,i=>match sameKey key k with
  |none=>none
  |some true=>some<|some (i,v)
  |some false=>dH key l<|i+1
def vq(P:Program)(t:TypeId)(key:AV):List (AV×AV)->Nat->Option (Option<|Nat×AV)
 |[],_=>some none
 |(k,v)::l,i=>match fZ P Op.maxDepth t key k with
  |none=>none
  |some true=>some<|some (i,v)
  |some false=>vq P t key l<|i+1
def iY:AV->Bool
 | .oe _=>false
 |_=>true
def findKey(P:Program)(t:TypeId)(key:AV)(es:List<|AV×AV):Option<|Option<|Nat×AV:=
 match iY key with
 |false=>none
 |true=>match plainKey P t key with
  |true=>dH key es 0
  |false=>vq P t key es 0
def u7(P:Program)(rL:TypeId->AV->Bool)(cs:List AV):List Field->Bool
 |[]=>true
 |f::l=>match f.name == "_" with
  |true=>u7 P rL cs l
  |false=>match ia P f.type cs f.offset with
   |none=>false
   |some a=>match rL f.type a with
    |true=>u7 P rL cs l
    |false=>false
def fh(P:Program):Nat->TypeId->AV->Bool
 |0,_,_=>false
 |d+1,t,x=>match P.underlying t,x with
  |some .bool,_=>true
  |some (.int _),_=>true
  |some .string,_=>true
  |some (.struct fs),.agg cs=>u7 P (fh P d) cs fs.toList
  |_,_=>false
def jW(r:Nat):M<|List<|AV×AV:=do
 match ←aY r with
 | .map es _=>pure es
 | .cK es=>pure es
 |_=>fail
def short:List (AV×AV)->Bool
 |[]=>true
 |[_]=>true
 |_=>false
def mN(P:Program)(k:TypeId)(key x:AV):M<|List<|AV×AV:=
 match x with
 | .map none=>M.pure []
 | .map (some r)=>(aY r).bind fun o=>match o with
  | .map es _=>M.pure es
  | .cK es=>ay (or (plainKey P k key)<|short es) <| M.pure es
  |_=>fail
 |_=>fail
def nn(ok:Bool)(v:AV)(b:Bool):AV:=
 match ok with
 |true=>.tuple [v,.bool b]
 |false=>v
def jR(P:Program)(t:TypeId)(x key:AV)(ok:Bool):M AV:=
 match P.underlying t with
 |some (.map k e)=>(mN P k key x).bind fun es=>ay (fh P 10000 k key) <| aA (findKey P k key es) fun f=>match f with
  |some q=>M.pure<|nn ok q.2 true
  |none=>aA (eT P e) fun z=>M.pure<|nn ok z false
 |_=>fail
def kI:List AV->List AV->Bool
 |[],[]=>true
 |x::xs,y::ys=>match sameKey x y with
  |some true=>kI xs ys
  |_=>false
 |_,_=>false
def sameBits:AV->AV->Bool
 | .agg xs,.agg ys=>kI xs ys
 |x,y=>match sameKey x y with
  |some true=>true
  |_=>false
def putAt:List (AV×AV)->Nat->AV->AV->List (AV×AV)
 |[],_,_,_=>[]
 |_::l,0,k,v=>(k,v)::l
 |x::l,i+1,k,v=>x::putAt l i k v
def pq(r:Nat)(key val:AV)(es:List<|AV×AV)(aK:Nat)(f:Option<|Nat×AV):M Unit:=
 match f with
 |some q=>aA es[q.1]? fun bD=>ay (sameBits bD.1 key) <| aZ r<|some<|.map (putAt es q.1 key val) aK
 |none=>aZ r<|some<|.map (es++[(key,val)])<|aK+1
def qq(r:Nat)(key val:AV)(es:List<|AV×AV)(f:Option<|Nat×AV):M Unit:=
 match f with
 |some q=>aZ r<|some<|.cK<|putAt es q.1 key val
 |none=>aZ r<|some<|.cK<|es++[(key,val)]
def iJ(P:Program)(t:TypeId)(m key val:AV):M Unit:=
 match P.underlying t,m with
 |some (.map k _),.map (some r)=>(aY r).bind fun o=>match o with
  | .map es aK=>ay (fh P 10000 k key) <| aA (findKey P k key es) fun f=>pq r key val es aK f
  | .cK es=>ay (and (plainKey P k key)<|fh P 10000 k key) <| aA (findKey P k key es) fun f=>qq r key val es f
  |_=>fail
 |_,_=>fail
def pF(P:Program)(argTypes:Array TypeId)(x:AV):M AV:=do
  let t ←lift argTypes[0]?
  match P.underlying t,x with
  |some .string,.str s=>pure<|.int .i64 s.size
  |some .string,.oe n=>pure<|.int .i64 n
  |some (.array n _),_=>pure<|.int .i64 n
  | some (.pointer a),_=>match P.underlying a with
    |some (.array n _)=>pure<|.int .i64 n
    |_=>fail
  |some (.slice _),.slice _ n _=>pure<|.int .i64 n
  |some (.slice _),.b9 _ _ n=>pure<|.int .i64 n
  |some (.map _ _),.map none=>pure<|.int .i64 0
  | some (.map _ _),.map (some r)=>do
    let es ←jW r
    pure (.int .i64 es.length)
  |_,_=>fail
def min2:AV->AV->Option AV
 | .int k x,.int _ y=>some<|.int k (match decide (y<x) with|true=>y|false=>x)
 |_,_=>none
def max2:AV->AV->Option AV
 | .int k x,.int _ y=>some<|.int k (match decide (y>x) with|true=>y|false=>x)
 |_,_=>none
def tB(f:AV->AV->Option AV):List AV->AV->Option AV
 |[],x=>some x
 |y::l,x=>match f x y with
  |none=>none
  |some z=>tB f l z
def pg(P:Program)(argTypes:Array TypeId)(x:AV):M AV:=do
  let t ←lift argTypes[0]?
  match P.underlying t,x with
  |some (.slice _),.slice none _ _=>pure iI
  | some (.slice e),.slice (some (n,o)) len cap=>do
    eV (match cap with| .lost=>false|_=>true)
    let z ←lift (eT P e)
    jg n o (s9 len z.cells)
    pure iI
  |_,_=>fail
def o4(P:Program)(b:Builtin)(argTypes:Array TypeId)(args:List AV):M AV:=
 match b,args with
 | .len,[x]=>pF P argTypes x
 | .append,[s,x]=>ji P argTypes s x
 | .copy,[d,x]=>pf P argTypes d x
 | .clear,[x]=>pg P argTypes x
 | .min,x::l=>lift<|tB min2 l x
 | .max,x::l=>lift<|tB max2 l x
 |_,_=>fail
inductive w7 where
 |fn (f:FuncId)
 |round (l:Nat)
 |row (n o k:Nat)
def ib(Sy:w7->List AV->M AV)(f:AV)(args:List AV):M AV:=
 match f with
 | .func (.func g) first captured=>Sy (.fn g)<|first++args++captured
 | .yield l=>Sy (.round l) args
 |_=>fail
def BN(P:Program)(t:TypeId)(name:String):Option FuncId:=
 match P.info? t with
 |none=>none
 |some i=>match i.methods.toList.find? (·.name == name) with
  |none=>none
  |some m=>match m.path.isEmpty,m.func with
   |true,some (f,ptr)=>match P.underlying t,ptr with
    |some (.pointer _),true=>some f
    |some (.pointer _),false=>none
    |some _,false=>some f
    |_,_=>none
   |_,_=>none
abbrev aD:=w7->List AV->M AV
abbrev dh:=aD->Tr AV->M AV
inductive kj (α:Type) where
 |mk (a:α)
def mW(x:Operand):dh:=fun _ t=>lift<|ak t x
def rb(c a b:Operand):dh:=fun _ t=>
 aA (ak t c) fun c=>aA (vN c) fun c=>aA (ak t a) fun a=>aA (ak t b) fun b=>
  match c with
  |true=>M.pure a
  |false=>M.pure b
def y9(P:Program)(e:TypeId):dh:=fun _ _=>aA (eT P e) fun z=>(newRow z.cells).bind fun r=>M.pure<|.ptr<|some (r,0)
def ru(x:Operand):dh:=fun _ t=>aA (ak t x) fun v=>(newRow v.cells).bind fun r=>M.pure<|.ptr<|some (r,0)
def qP(P:Program)(ty:TypeId)(parts:List<|Nat×Operand):dh:=fun _ t=>aA (mV (ak t) parts) fun ps=>lift<|build P ty ps
def qg(P:Program)(ty:TypeId)(len:Nat)(parts:List<|Nat×Operand):dh:=fun _ t=>aA (mV (ak t) parts) fun ps=>buildSlice P ty len ps
def nR(P:Program)(ty:TypeId)(n o:Nat):M AV:=
 aA (ke P ty) fun ag=>match ag with
  |true=>fail
  |false=>(aY n).bind fun ob=>match ob with
   | .lV m t=>ay (Nat.blt o m) <| lift<|t.get o
   |_=>fail
def mP(P:Program)(ty:TypeId)(Sy:aD)(n o:Nat):M AV:=
 aA (ke P ty) fun ag=>aA (bW P ty) fun k=>(Sy (.row n o (match ag with|true=>k|false=>1)) []).bind fun v=>match v with
  | .agg l=>match ag with
   |true=>M.pure<|.agg l
   |false=>lift<|one l
  |_=>fail
def loadAt(P:Program)(ty:TypeId)(Sy:aD)(a:AV):M AV:=
 match a with
 | .jx n o=>match Nat.ble top n with
  |true=>mP P ty Sy n o
  |false=>nR P ty n o
 |a=>aA (addrOf a) fun a=>loadVar P ty a.1 a.2
def lW(P:Program)(ty:TypeId)(a:Operand):dh:=fun Sy t=>aA (ak t a) fun a=>loadAt P ty Sy a
def nU(P:Program)(ty:TypeId)(a x:Operand):dh:=fun _ t=>aA (ak t a) fun a=>aA (addrOf a) fun a=>aA (ak t x) fun v=>(storeVar P ty a.1 a.2 v).bind fun _=>M.pure iI
def notNil:AV->Bool
 | .ptr none| .nilIface| .nilFunc=>false
 | .func (.func _) _ _=>true
 | .func _ _ _=>false
 |_=>true
def qk(x:Operand):dh:=fun _ t=>aA (ak t x) fun v=>ay (notNil v) <| M.pure v
def qF(P:Program)(op:BinOp)(t:TypeId)(x y:Operand)(a b:AV):Bool:=
 match op with
 | .eql| .neq=>A8 P t x y a b
 |_=>true
def fL(P:Program)(op:BinOp)(ty:TypeId)(x y:Operand):dh:=fun _ t=>aA (ak t x) fun a=>aA (ak t y) fun b=>ay (qF P op ty x y a b) <| lift<|jl P op ty a b
def rM(op:UnOp)(x:Operand):dh:=fun _ t=>aA (ak t x) fun a=>lift<|HU op a
def isByte(P:Program)(e:TypeId):Bool:=
 match P.underlying e with
 |some (.int .u8)=>true
 |_=>false
def toText(P:Program)(src dst:TypeId)(a:AV)(n:Nat):M AV:=
 match P.underlying src,P.underlying dst with
 |some (.slice e),some .string=>ay (isByte P e) <| (firstCells 1 n a).bind fun l=>aA (bytesOf l) fun b=>M.pure<|.str ⟨b.toArray⟩
 |_,_=>fail
def yR(o:U)(n:Nat):Bool:=
 match o with
 | .cells m t z=>match t with
  | .nil=>match z with
   |[.int .u8 k]=>Nat.ble n m&&decide (k=0)
   |_=>false
  |_=>false
 |_=>false
def zeroOf(a:AV)(n:Nat):M AV:=
 match a with
 | .slice (some (r,o)) _ (.known _)=>ay (Nat.beq o 0) <| (aY r).bind fun o=>ay (yR o n) <| M.pure<|.oe n
 |_=>fail
def toZero(P:Program)(src dst:TypeId)(a:AV)(n:Nat):M AV:=
 match P.underlying src,P.underlying dst with
 |some (.slice e),some .string=>ay (isByte P e) <| zeroOf a n
 |_,_=>fail
def qu(P:Program)(src dst:TypeId)(x:Operand):dh:=fun _ t=>
 aA (ak t x) fun a=>match a with
  | .slice p n c=>match Nat.blt 1048576 n with
   |true=>toZero P src dst (.slice p n c) n
   |false=>toText P src dst (.slice p n c) n
  |a=>lift<|Bw P src dst a
def GZ(P:Program)(t:TypeId)(a:AV):Option AV:=
 match P.underlying t with
 |none=>none
 |some (.interface _)=>none
 |some _=>some<|.iface t a
def qe(P:Program)(ty:TypeId)(x:Operand):dh:=fun _ t=>aA (ak t x) fun a=>lift<|GZ P ty a
def Iu:Fn->Bool
 | .func _=>true
 |_=>false
def ql(fn:Fn)(first captured:List Operand):dh:=fun _ t=>ay (Iu fn) <| aA (eB (ak t) first) fun f=>aA (eB (ak t) captured) fun c=>M.pure<|.func fn f c
def zm(P:Program)(t:TypeId):Bool:=
 match P.underlying t with
 |some (.map _ _)=>true
 |_=>false
def qv(P:Program)(ty:TypeId)(r:Option Operand):dh:=fun _ t=>
 (match r with
 |none=>M.pure ()
 |some x=>aA (ak t x) fun v=>aA (intOf v) fun _=>eV<|zm P ty).bind fun _=>
 (cN<|.map [] 0).bind fun n=>M.pure<|.map<|some n
def nJ(P:Program)(ty:TypeId)(l c:Operand):dh:=fun _ t=>aA (ak t l) fun l=>aA (ak t c) fun c=>makeSlice P ty l c
def jX(P:Program)(ty:TypeId)(x:Operand)(lo hi mx:Option Operand):dh:=fun _ t=>aA (ak t x) fun x=>aA (opt (ak t) lo) fun lo=>aA (opt (ak t) hi) fun hi=>aA (opt (ak t) mx) fun mx=>lift<|kG P ty x lo hi mx
def qj(P:Program)(s:TypeId)(x:Operand)(f:Nat):dh:=fun _ t=>aA (ak t x) fun x=>lift<|fieldAddr P s x f
def qQ(P:Program)(s:TypeId)(x:Operand)(f:Nat):dh:=fun _ t=>aA (ak t x) fun x=>lift<|GY P s x f
def jO(P:Program)(ty:TypeId)(x i:Operand):dh:=fun _ t=>aA (ak t x) fun x=>aA (ak t i) fun i=>lift<|indexAddr P ty x i
def qR(P:Program)(ty:TypeId)(x i:Operand):dh:=fun _ t=>aA (ak t x) fun x=>aA (ak t i) fun i=>lift<|indexOf P ty x i
def jS(P:Program)(ty:TypeId)(x i:Operand)(ok:Bool):dh:=fun _ t=>aA (ak t x) fun x=>aA (ak t i) fun i=>jR P ty x i ok
def gP(P:Program)(ty:TypeId)(m k x:Operand):dh:=fun _ t=>aA (ak t m) fun m=>aA (ak t k) fun k=>aA (ak t x) fun x=>(iJ P ty m k x).bind fun _=>M.pure iI
def BO(P:Program)(asserted:TypeId)(ok:Bool)(v:AV):Option AV:=
 match v with
 | .iface t y=>match Nat.beq t asserted with
  |true=>match ok with
   |true=>some<|.tuple [y,.bool true]
   |false=>some y
  |false=>match ok with
   |true=>match eT P asserted with
    |none=>none
    |some z=>some<|.tuple [z,.bool false]
   |false=>none
 | .nilIface=>match ok with
  |true=>match eT P asserted with
   |none=>none
   |some z=>some<|.tuple [z,.bool false]
  |false=>none
 |_=>none
def G0(P:Program)(asserted:TypeId)(ok:Bool)(v:AV):Option AV:=
 match P.underlying asserted with
 |none=>none
 |some (.interface _)=>none
 |some _=>BO P asserted ok v
def qG(P:Program)(asserted:TypeId)(ok:Bool)(x:Operand):dh:=fun _ t=>aA (ak t x) fun v=>lift<|G0 P asserted ok v
def qH(P:Program)(ty:TypeId)(x:AV):M AV:=
 match P.underlying ty,x with
 |some .string,.str b=>(cN<|.qD b 0).bind fun n=>M.pure<|.ptr<|some (n,0)
 |some (.map _ _),.map (some m)=>(aY m).bind fun o=>match o with
  | .map es _=>(aZ m<|some .ep).bind fun _=>(cN<|.iter m es true es none).bind fun n=>M.pure<|.ptr<|some (n,0)
  | .cK es=>(aZ m<|some .ep).bind fun _=>(cN<|.iter m es false es none).bind fun n=>M.pure<|.ptr<|some (n,0)
  |_=>fail
 |_,_=>fail
def qS(P:Program)(ty:TypeId)(x:Operand):dh:=fun _ t=>aA (ak t x) fun x=>qH P ty x
def tl(x:AV):M AV:=
 match x with
 | .ptr (some (n,0))=>(aY n).bind fun o=>match o with
  | .qD b pos=>match Nat.blt pos b.size with
   |true=>(aZ n<|some<|.qD b<|pos+(Utf8.decode b pos).2).bind fun _=>M.pure<|.tuple [.bool true,.int .i64 pos,.int .i32 (Utf8.decode b pos).1]
   |false=>M.pure<|.tuple [.bool false]
  |_=>fail
 |_=>fail
def qw(x:Operand):dh:=fun _ t=>aA (ak t x) fun x=>tl x
def tm(x:AV):M AV:=
 match x with
 | .ptr (some (n,0))=>(aY n).bind fun o=>match o with
  | .iter _ _ _ _ (some (k,v))=>M.pure<|.tuple [k,v]
  |_=>fail
 |_=>fail
def qT(x:Operand):dh:=fun _ t=>aA (ak t x) fun x=>tm x
def partOf(x:AV)(i:Nat):Option AV:=
 match x with
 | .tuple l=>l[i]?
 |_=>none
def qx(x:Operand)(i:Nat):dh:=fun _ t=>aA (ak t x) fun x=>lift<|partOf x i
def lJ(Sy:aD)(n o k:Nat):M<|List AV:=match k with
 |0=>M.pure []
 |k=>(Sy (.row n o k) []).bind fun x=>match x with
  | .agg l=>ay (Nat.beq l.length k) <| M.pure l
  |_=>fail
def Cz(size len:Nat)(cap:bc):Bool:=
 match cap with
 | .known c=>and (Nat.beq c 0)<|Nat.beq len 0
 | .bA _ sz=>Nat.beq sz size
 | .lost=>false
def qI(P:Program)(Sy:aD)(argTypes:Array TypeId)(s:AV)(n o k:Nat):M AV:=
 ay (Nat.ble top n) <| aA argTypes[0]? fun t=>match P.underlying t,s with
 |some (.slice e),.slice (some (m,0)) len cap=>
  aA (P.info? e) fun i=>ay (and (lI i)<|jk P argTypes[1]?) <| ay (Cz i.size len cap) <|
  (lJ Sy n o<|k*i.size).bind fun new=>(dG m 0<|len*i.size).bind fun bD=>(aY m).bind fun ob=>ay ob.o9 <| (aZ m none).bind fun _=>grown i.size i.bytes (len+k) bD new
 |_,_=>fail
def iG(P:Program)(b:Builtin)(argTypes:Array TypeId)(args:List Operand):dh:=fun Sy t=>
 aA (eB (ak t) args) fun args=>match b,args with
 | .append,[s,.b9 n o k]=>qI P Sy argTypes s n o k
 |b,args=>o4 P b argTypes args
def lX(f:Operand)(args:List Operand):dh:=fun Sy t=>aA (eB (ak t) args) fun args=>aA (ak t f) fun f=>ib Sy f args
def qJ(P:Program)(recv:Operand)(name:String)(args:List Operand):dh:=fun Sy t=>
 aA (eB (ak t) args) fun args=>aA (ak t recv) fun r=>match r with
  | .iface ty v=>aA (BN P ty name) fun f=>Sy (.fn f)<|v::args
  |_=>fail
def HV:dh:=fun _ _=>fail
def bz(P:Program)(op:Op):kj dh:=
 match op with
 | .move x=>.mk<|mW x
 | .assign x=>.mk<|mW x
 | .pick c a b=>.mk<|rb c a b
 | .alloc e=>.mk<|y9 P e
 | .box _ x=>.mk<|ru x
 | .build t parts=>.mk<|qP P t parts.toList
 | .buildSlice t len parts=>.mk<|qg P t len parts.toList
 | .load t a=>.mk<|lW P t a
 | .store t a x=>.mk<|nU P t a x
 | .nilCheck x=>.mk<|qk x
 | .binOp op t x y _=>.mk<|fL P op t x y
 | .unOp op _ x=>.mk<|rM op x
 | .convert src dst x=>.mk<|qu P src dst x
 | .makeInterface t x=>.mk<|qe P t x
 | .makeFunc fn first captured=>.mk<|ql fn first.toList captured.toList
 | .makeMap t r=>.mk<|qv P t r
 | .makeSlice t l c=>.mk<|nJ P t l c
 | .slice t x lo hi mx=>.mk<|jX P t x lo hi mx
 | .fieldAddr s x f=>.mk<|qj P s x f
 | .field s x f=>.mk<|qQ P s x f
 | .indexAddr t x i=>.mk<|jO P t x i
 | .index t x i=>.mk<|qR P t x i
 | .lookup t x i ok=>.mk<|jS P t x i ok
 | .mapUpdate t m k x=>.mk<|gP P t m k x
 | .insert t m k x=>.mk<|gP P t m k x
 | .typeAssert x _ asserted ok=>.mk<|qG P asserted ok x
 | .range t x=>.mk<|qS P t x
 | .entry x=>.mk<|qT x
 | .next x true=>.mk<|qw x
 | .extract x i=>.mk<|qx x i
 | .call ⟨.builtin b,args,argTypes⟩=>.mk<|iG P b argTypes args.toList
 | .call ⟨.value f,args,_⟩=>.mk<|lX f args.toList
 | .call ⟨.invoke recv name,args,_⟩=>.mk<|qJ P recv name args.toList
 |_=>.mk HV
def kj.val{α:Type}(b:kj α):α:= @kj.rec α (fun _=>α) (fun a=>a) b
def w8(P:Program)(Sy:aD)(t:Tr AV)(op:Op):M AV:=(bz P op).val Sy t
end
end Go.Rn
namespace Go.Rn
noncomputable section
structure AF where
 fn:FuncId
 tmps:Tr AV
 nt:Nat
 todo:List Item
 defers:List Nat
 round:Option Nat
def dY(nt:Nat)(t:Tr AV)(dst:Option Tmp)(v:AV):Option<|Tr AV:= @Option.rec Tmp (fun _=>Option<|Tr AV) (some t) (fun d=> @Bool.rec (fun _=>Option<|Tr AV) none (some<|t.put d<|some v)<|Nat.blt d nt) dst
def vt(ops:Array Oper)(t:Tr AV)(j:Nat):Option Bool:=
 match ops[j]? with
 |none=>none
 |some o=>match o.dst with
  |none=>none
  |some d=>match t.get d with
   |some (.bool b)=>some b
   |_=>none
def jT(ops:Array Oper)(g:Nat×Bool)(t:Tr AV):Bool:=
 match vt ops t g.1 with
 |some b=>b == g.2
 |none=>false
def lP(ops:Array Oper)(t:Tr AV)(j:Nat):Bool:=
 match ops[j]? with
 |none=>true
 |some o=>match o.dst with
  |none=>true
  |some d=>(t.get d).isSome
abbrev CA:=aD->Nat->Tr AV->M (Tr AV)
def ll(f:kj dh)(dst:Option Tmp):CA:=fun Sy nt t=>(f.val Sy t).bind fun v=>lift<|dY nt t dst v
def lY(ops:Array Oper)(g:Nat×Bool)(f:kj dh)(dst:Option Tmp):CA:=fun Sy nt t=>ay (lP ops t g.1) <| @Bool.rec (fun _=>M<|Tr AV) (lift<|dY nt t dst iI) ((f.val Sy t).bind fun v=>lift<|dY nt t dst v)<|jT ops g t
def re(P:Program)(ops:Array Oper)(o:Oper):kj CA:=
 match o.guard with
 |none=>.mk<|ll (bz P o.op) o.dst
 |some g=>.mk<|lY ops g (bz P o.op) o.dst
def di(P:Program)(Sy:aD)(nt:Nat)(ops:Array Oper)(o:Oper)(t:Tr AV):M<|Tr AV:=(re P ops o).val Sy nt t
def fj(P:Program)(Sy:aD)(nt:Nat)(ops:Array Oper)(l:List Oper):Tr AV->M (Tr AV):= @List.rec Oper (fun _=>Tr AV->M (Tr AV)) (fun t=>M.pure t) (fun o _ ih t=>(di P Sy nt ops o t).bind ih) l
structure bI where
 i:Nat
 rd:List Nat
 wr:List Nat
 lo:Nat
 hi:Nat
def mL(m:Nat)(l:List Nat):List Nat:= @List.rec Nat (fun _=>List Nat) [] (fun x _ ih=> @Bool.rec (fun _=>List Nat) ih (List.cons x ih) (Nat.ble m x |> not)) l
def below(m:Nat)(l:List Nat):List Nat:= @Bool.rec (fun _=>List Nat) (mL m l) []<|Nat.beq m 0
def alone{α:Type}(i:Nat)(m:M α):M<|α×bI:=fun s=>
 @AS.rec (fun _=>R<|α×bI) (fun h nx mark rd wr=>forced nx fun lo=>
  @R.rec α (fun _=>R<|α×bI) .bad (fun a s1=>
   @AS.rec (fun _=>R<|α×bI) (fun h1 dO _ dc iB=>forced dO fun hi=>.ok (a,⟨i,below lo dc,below lo iB,lo,hi⟩) ⟨h1,hi,mark,below mark dc++rd,below mark iB++wr⟩) s1)
   (m ⟨h,lo,lo,[],[]⟩)) s
def gT(P:Program)(Sy:aD)(nt:Nat)(ops:Array Oper):List Oper->Nat->Tr AV->M (Tr AV×List bI)
 |[],_,t=>M.pure (t,[])
 |o::l,i,t=>(alone i<|di P Sy nt ops o t).bind fun x=>(gT P Sy nt ops l (i+1) x.1).bind fun y=>M.pure (y.1,x.2::y.2)
def nb(n:Nat):List Nat->Bool
 |[]=>false
 |x::l=>match Nat.beq x n with
  |true=>true
  |false=>nb n l
def meets:List Nat->List Nat->Bool
 |[],_=>false
 |x::l,m=>match nb x m with
  |true=>true
  |false=>meets l m
def pv(lo hi:Nat):List Nat->Bool
 |[]=>false
 |x::l=>match Nat.ble lo x&&Nat.blt x hi with
  |true=>true
  |false=>pv lo hi l
def lR(x y:bI):Bool:= !(meets x.wr y.rd)&&(!(pv x.lo x.hi y.rd))
def lS(x:bI):Bool:=match x.wr with
 |[]=>Nat.ble x.hi x.lo
 |_=>false
def lF(b:Array Nat)(x:bI):List bI->Bool
 |[]=>true
 |y::l=>match Nat.beq x.i y.i||(lR x y|| !loose b x.i y.i) with
  |true=>lF b x l
  |false=>false
def j0(b:Array Nat)(all:List bI):List bI->Bool
 |[]=>true
 |x::l=>match lS x||lF b x all with
  |true=>j0 b all l
  |false=>false
def nM(P:Program)(Sy:aD)(nt:Nat)(ops:Array Oper)(t:Tr AV):M<|Tr AV:=(gT P Sy nt ops ops.toList 0 t).bind fun x=>ay (j0 (Region.before ops) x.2 x.2) <| M.pure x.1
inductive bK where
 |go (fr:AF)
 |leave (fr:AF) (SM:Option Code)
def getLoop(l:Nat):M U:=(aY l).bind fun o=>match o with
 | .loop a b c d e f g h i=>M.pure<|.loop a b c d e f g h i
 |_=>fail
abbrev j8:=aD->FuncId->Tr AV->Nat->List Nat->Option Nat->List Item->M bK
def wj:j8:=fun _ fn t nt d r k=>M.pure<|.go ⟨fn,t,nt,k,d,r⟩
def tL(l:List Item):j8:=fun _ fn t nt d r k=>M.pure<|.go ⟨fn,t,nt,l++k,d,r⟩
def HW(c:Operand)(a b:Code):j8:=fun _ fn t nt d r k=>aA (ak t c) fun v=>aA (vN v) fun v=>M.pure<|.go ⟨fn,t,nt,.code (@Bool.rec (fun _=>Code) b a v)::k,d,r⟩
def zn(id:Nat):j8:=fun _ fn t nt d r k=>match exitTo id k with
 |some k'=>M.pure<|.go ⟨fn,t,nt,k',d,r⟩
 |none=>M.pure<|.leave ⟨fn,t,nt,.code (.exit id)::k,d,r⟩<|some<|.exit id
def zo(l:Nat):j8:=fun _ fn t nt d r k=>match gotoIn l k with
 |some k'=>M.pure<|.go ⟨fn,t,nt,k',d,r⟩
 |none=>M.pure<|.leave ⟨fn,t,nt,.code (.goto l)::k,d,r⟩<|some<|.goto l
def Iv:j8:=fun _ fn t nt d r k=>M.pure<|.leave ⟨fn,t,nt,.code .ret::k,d,r⟩<|some .ret
def G1(P:Program)(ops:Array Oper):j8:=fun Sy fn t nt d r k=>(fj P Sy nt ops ops.toList t).bind fun t=>M.pure<|.go ⟨fn,t,nt,k,d,r⟩
def Gn(P:Program)(ops:Array Oper):j8:=fun Sy fn t nt d r k=>(nM P Sy nt ops t).bind fun t=>M.pure<|.go ⟨fn,t,nt,k,d,r⟩
def Nh:LoopState->Bool
 | .busy=>false
 |_=>true
def kD(l:Nat):M<|Option Code:=(getLoop l).bind fun o=>match o with
 | .loop st dA fn t nt ps a b dd=>ay (Nh st) <| (aZ l<|some<|.loop .exhausted dA fn t nt ps a b dd).bind fun _=>M.pure dA
 |_=>fail
def andThen(p:Option Code)(k:List Item):List Item:=
 match p with
 |none=>k
 |some c=>.code c::k
def za(f:Operand)(params:List Tmp)(assign body:Code):j8:=fun Sy fn t nt d r k=>
 match r with
 |none=>
  (cN .defs).bind fun df=>(cN<|.loop .ready none fn t nt params assign body df).bind fun l=>
  aA (ak t f) fun g=>(ib Sy g [.yield l]).bind fun _=>(kD l).bind fun p=>
  M.pure (.go ⟨fn,t,nt,andThen p k,df::d,r⟩)
 |some l0=>(getLoop l0).bind fun o=>match o with
  | .loop _ _ _ _ _ _ _ _ df=>
   (cN<|.loop .ready none fn t nt params assign body df).bind fun l=>
   aA (ak t f) fun g=>(ib Sy g [.yield l]).bind fun _=>(kD l).bind fun p=>
   M.pure (.go ⟨fn,t,nt,andThen p k,d,r⟩)
  |_=>fail
def zb:j8:=fun _ fn t nt d r k=>
 match r with
 |none=>fail
 |some l=>(getLoop l).bind fun o=>match o with
  | .loop .ready dA QA t1 QB ps a b df=>(aZ l<|some<|.loop .busy dA QA t1 QB ps a b df).bind fun _=>M.pure<|.go ⟨fn,t,nt,k,d,r⟩
  |_=>fail
def CB:j8:=fun _ _ _ _ _ _ _=>fail
def HX(P:Program)(c:Code):kj j8:=
 match c with
 | .skip=>.mk wj
 | .label _=>.mk wj
 | .seq a b=>.mk<|tL [.code a,.code b]
 | .cond c a b=>.mk<|HW c a b
 | .block id b=>.mk<|tL [.code b,.inBlock id]
 | .loop b=>.mk<|tL [.code b,.inLoop b]
 | .scope b=>.mk<|tL [.code b,.inScope b]
 | .exit id=>.mk<|zn id
 | .goto l=>.mk<|zo l
 | .ret=>.mk Iv
 | .region _ ops false=>.mk<|G1 P ops
 | .region _ ops true=>.mk<|Gn P ops
 | .rangeFunc f params a b=>.mk<|za f params.toList a b
 | .refuse _=>.mk CB
def zp(P:Program)(it:Item):kj j8:=
 match it with
 | .code c=>HX P c
 | .inBlock _=>.mk wj
 | .inScope _=>.mk wj
 | .inLoop b=>.mk<|tL [.code b,.inLoop b]
 | .beginRound=>.mk zb
 |_=>.mk CB
def fx(P:Program)(Sy:aD)(fr:AF):M bK:= @AF.rec (fun _=>M bK) (fun fn t nt todo d r=> @List.rec Item (fun _=>M bK) (M.pure<|.leave ⟨fn,t,nt,[],d,r⟩ none) (fun it k _=>(zp P it).val Sy fn t nt d r k) todo) fr
def ig(P:Program)(Sy:aD)(n:Nat):AF->M bK:= @Nat.rec (fun _=>AF->M bK) (fx P Sy) (fun _ ih fr=>(ih fr).bind fun x=> @bK.rec (fun _=>M bK) ih (fun fr j=>M.pure<|.leave fr j) x) n
def iL(P:Program)(Sy:aD)(n:Nat):Nat->AF->M bK:= @Nat.rec (fun _=>Nat->AF->M bK) (fun _ _=>fail) (fun _ ih k fr=>(ig P Sy k fr).bind fun x=> @bK.rec (fun _=>M bK) (fun fr=>ih (Nat.succ k) fr) (fun fr j=>M.pure<|.leave fr j) x) n
def qy(P:Program)(t:Tr AV):ResultVar->M AV
  | .tmp i=>lift<|t.get i
  | .cell a ty=>do
    let a ←lift (match t.get a with
      |some x=>addrOf x
      |none=>none)
    loadVar P ty a.1 a.2
def jP(P:Program)(t:Tr AV):List ResultVar->M (List AV)
  |[]=>pure []
  | r::l=>do
    let v ←qy P t r
    let vs ←jP P t l
    pure (v::vs)
def hJ:List Nat->M Unit
  |[]=>pure ()
  | d ::l=>do
    match ←aY d with
    | .defs=>do
      aZ d none
      hJ l
    |_=>fail
def bt(l:List AV):Tr AV:=Tr.fill l 0 .nil
def jh:List Tmp->List AV->Tr AV->Tr AV
 |p::ps,v::vs,t=>jh ps vs<|t.put p<|some v
 |_,_,t=>t
def qz(fr:AF):Option<|Operand×Oper×Array Oper×List Oper×List Item:=
 match fr.todo with
 | .code (.region _ ops false)::k=>match ops.toList with
  |o::rest=>match o.guard,o.op with
   |none,.next it false=>some (it,o,ops,rest,k)
   |_,_=>none
  |[]=>none
 |_=>none
def n7{α:Type}:List α->List (α×List α)
 |[]=>[]
 |x::l=>(x,l)::(n7 l).map fun(y,r)=>(y,x::r)
def mapOf(exact:Bool)(es:List<|AV×AV):U:=
 match exact with
 |true=>.map es es.length
 |false=>.cK es
def lT(P:Program)(Sy:aD)(fr:AF)(n:Nat)(ob:U)(o:Oper)(ops:Array Oper)(rest:List Oper)(k:List Item)(v:AV):M AF:=do
 aZ n (some ob)
 let t ←lift (dY fr.nt fr.tmps o.dst v);let t ←fj P Sy fr.nt ops rest t
 pure {fr with tmps:=t,todo:=k}
def lK(P:Program)(Sy:aD)(fr:AF)(n m:Nat)(es:List<|AV×AV)(exact:Bool)(o:Oper)(ops:Array Oper)(rest:List Oper)(k:List Item):M AF:=do
 aZ n none
 aZ m (some<|mapOf exact es)
 let t ←lift (dY fr.nt fr.tmps o.dst<|.tuple [.bool false]);let t ←fj P Sy fr.nt ops rest t
 pure {fr with tmps:=t,todo:=k}
def mM(fr:AF)(it:Operand):M<|Nat×U:=do
  match ←lift (ak fr.tmps it) with
  | .ptr (some (n,0))=>do
    let o ←aY n
    pure (n,o)
  |_=>fail
def collect{α β:Type}(f:α->Option (List β)):List α->Option (List β)
 |[]=>some []
 |x::l=>match f x with
  |none=>none
  |some a=>match collect f l with
   |none=>none
   |some b=>some<|a++b
def hX(P:Program)(Sy:aD):Nat->AF->AS->Option (List<|(AF×Option Code)×AS)
 |0,_,_=>none
 |f+1,fr,s=>
  match qz fr with
  |some (it,o,ops,rest,k)=>
   match mM fr it s with
   | .ok (n,.iter m es exact left _) s=>
    match left with
    |[]=>match lK P Sy fr n m es exact o ops rest k s with
     | .ok fr s=>hX P Sy f fr s
     | .bad=>none
    |_::_=>collect (fun(x:(AV×AV)×List (AV×AV))=>
     match lT P Sy fr n (.iter m es exact x.2<|some x.1) o ops rest k (.tuple [.bool true,x.1.1,x.1.2]) s with
     | .ok fr s=>hX P Sy f fr s
     | .bad=>none) (n7 left)
   |_=>none
  |none=>match fx P Sy fr s with
   | .ok (.go fr) s=>hX P Sy f fr s
   | .ok (.leave fr j) s=>some [((fr,j),s)]
   | .bad=>none
def finish(P:Program)(rs:List ResultVar)(fr:AF)(j:Option Code):M AV:=do
 eV (match j with|none|some .ret=>true|_=>false)
 hJ fr.defers
 let vs ←jP P fr.tmps rs
 match vs with
 |[v]=>pure v
 |_=>pure<|.tuple vs
def kA(P:Program)(rs:List ResultVar):List ((AF×Option Code)×AS)->Option (List<|AV×AS)
 |[]=>some []
 |((fr,j),s)::l=>match finish P rs fr j s with
  | .bad=>none
  | .ok v s1=>match kA P rs l with
   |none=>none
   |some r=>some<|(v,s1)::r
def Ml(a b:AV×AV):Bool:=
 match a.1,b.1 with
 | .int _ x,.int _ y=>decide<|x<y
 |_,_=>false
def zc(x:AV×AV):List (AV×AV)->List (AV×AV)
 |[]=>[x]
 |y::l=>match Ml y x with
  |true=>y::zc x l
  |false=>x::y::l
def nV:List (AV×AV)->List (AV×AV)
 |[]=>[]
 |x::l=>zc x<|nV l
def zq(k:AV):List (AV×AV)->Bool
 |[]=>false
 |(x,_)::l=>match sameKey k x with
  |some false=>zq k l
  |_=>true
def qU:List (AV×AV)->Bool
 |[]=>true
 |(x,_)::l=>match zq x l with
  |true=>false
  |false=>qU l
def sW:List (Nat×List (AV×AV))->Bool
 |[]=>true
 |(_,es)::l=>match qU es with
  |true=>sW l
  |false=>false
def BP(n:Nat)(l:List Nat):List Nat:=
 match nb n l with
 |true=>l
 |false=>n::l
def jU:List Nat->List Nat
 |[]=>[]
 |x::l=>BP x<|jU l
def og(s:AS)(n:Nat):Option<|List<|AV×AV:=
 match s.h.get n with
 |some (.map es _)=>some es
 |some (.cK es)=>some es
 |_=>none
def Ni:AV->Bool
 | .int _ _=>true
 |_=>false
inductive oB where
 |none
 |nil
 |row (n:Nat) (l:List AV) (len e:Nat)
def ij(lo:Nat)(s:AS):AV->Option oB
 | .tuple []=>some .none
 | .slice none 0 (.known 0)=>some .nil
 | .slice (some (n,0)) len (.bA c e)=>match s.h.get n with
  |some (.cells k t z)=>match eF t z k 0 with
   |some l=>match (Nat.ble lo n&&Nat.blt n s.nx)&&(l.all Ni&&(Nat.ble len c&&Nat.ble l.length top)) with
    |true=>some<|.row n l len e
    |false=>none
   |none=>none
  |_=>none
 |_=>none
def tC:List (AV×AV)->List (AV×AV)->Bool
 |[],[]=>true
 |a::l,b::m=>match sameBits a.1 b.1&&sameBits a.2 b.2 with
  |true=>tC l m
  |false=>false
 |_,_=>false
def nS:oB->oB->Bool
 | .none,.none=>true
 | .nil,.nil=>true
 | .row a l n e,.row b m k f=>Nat.beq a b&&(kI l m&&(Nat.beq n k&&Nat.beq e f))
 |_,_=>false
def kL:AV->AV
 | .tuple (x::_)=>x
 |v=>v
def ph:AV->Option (List AV)
 | .tuple (_::l)=>some l
 |_=>none
def Bx:Option (List AV)->Option (List AV)->Bool
 |none,none=>true
 |some l,some m=>kI l m
 |_,_=>false
def vu:Option (List AV)->AV->AV
 |none,x=>x
 |some l,x=>.tuple<|x::l
def pw(s:AS):List (Nat×List (AV×AV))->Bool
 |[]=>true
 |(n,es)::l=>match og s n with
  |none=>false
  |some fs=>match tC (nV fs) es with
   |true=>pw s l
   |false=>false
def fits(lo:Nat)(ns:List Nat)(es:List<|Nat×List (AV×AV))(r:oB)(rest:Option<|List AV):List (AV×AS)->Bool
 |[]=>true
 |(v,s)::l=>match (below lo s.wr).all (fun n=>nb n ns)&&pw s es with
  |false=>false
  |true=>match ij lo s (kL v) with
   |none=>false
   |some q=>match nS q r&&Bx (ph v) rest with
    |true=>fits lo ns es r rest l
    |false=>false
def entriesOf(s:AS):List Nat->Option (List<|Nat×List (AV×AV))
 |[]=>some []
 |n::l=>match og s n with
  |none=>none
  |some es=>match entriesOf s l with
   |none=>none
   |some r=>some<|(n,nV es)::r
def kP:List (Nat×List (AV×AV))->M Unit
  |[]=>pure ()
  | (n,es)::l=>do
    let _ ←jW n
    aZ n (some<|.cK es)
    kP l
def rf:List (AV×AS)->List Nat
 |[]=>[]
 |(_,s)::l=>s.rd++rf l
def jj:List Nat->M Unit
  |[]=>pure ()
  | n::l=>do
    let _ ←aY n
    jj l
structure wk where
 note:List Nat
 es:List<|Nat×List (AV×AV)
 ret:oB
 rest:Option<|List AV
 lo:Nat
 skip:Nat
def oh:List (AV×AS)->Nat
 |[]=>0
 |(_,s)::l=>max s.nx<|oh l
def iM:Nat->M Unit
 |0=>M.pure ()
 |k+1=>(cN .defs).bind fun n=>(aZ n none).bind fun _=>iM k
def nW(lo:Nat)(outs:List<|AV×AS):Option wk:=
 match outs with
 |[]=>none
 |(v,s1)::l=>
  match entriesOf s1 (jU<|below lo s1.wr),ij lo s1 (kL v) with
  |some es,some r=>match fits lo (jU<|below lo s1.wr) es r (ph v) ((v,s1)::l)&&sW es with
   |false=>none
   |true=>some ⟨below lo<|rf<|(v,s1)::l,es,r,ph v,lo,oh ((v,s1)::l) - lo⟩
  |_,_=>none
def oi(lo:Nat)(r:oB):M AV:=
 match r with
 | .none=>M.pure<|.tuple []
 | .nil=>M.pure<|.slice none 0<|.known 0
 | .row n c len e=>(iM<|n - lo).bind fun _=>(newRow c).bind fun m=>ay (Nat.beq m n) <| M.pure<|.slice (some (n,0)) len<|.bA len e
def vO(p:wk):M AV:=(jj p.note).bind fun _=>(kP p.es).bind fun _=>(oi p.lo p.ret).bind fun v=>(iM p.skip).bind fun _=>M.pure<|vu p.rest v
def vw(P:Program)(Sy:aD)(f ntmps:Nat)(rs:List ResultVar)(body:Code)(args:List AV):AS->Option (List<|AV×AS):=fun s=>
 match hX P Sy 100000 ⟨f,bt args,max ntmps args.length,[.code body],[],none⟩ s with
 |some l=>kA P rs l
 |none=>none
def px(P:Program)(Sy:aD)(f ntmps:Nat)(rs:List ResultVar)(body:Code)(args:List AV):M AV:=fun s=>
 match Nat.ble (max ntmps args.length) top with
 |false=>.bad
 |true=>match vw P Sy f ntmps rs body args ⟨s.h,s.nx,s.nx,[],[]⟩ with
  |none=>.bad
  |some outs=>match nW s.nx outs with
   |none=>.bad
   |some p=>vO p s
def depth:Nat:=24
def o5:List AV->M AV
  | [.iface t (.map (some r))]=>do
    match ←aY r with
    | .map es aK=>do
      let n ←cN (.map es aK)
      pure (.iface t<|.map<|some n)
    | .cK es=>do
      let n ←cN (.cK es)
      pure (.iface t<|.map<|some n)
    |_=>fail
  |_=>fail
def qK:List AV->Option (List<|List UInt8)
 |[]=>some []
 | .str s::l=>match qK l with
  |none=>none
  |some r=>some<|s.data.toList::r
 |_::_=>none
def lH(sep:List UInt8):List (List UInt8)->List UInt8
 |[]=>[]
 |[x]=>x
 |x::l=>x++(sep++lH sep l)
def nN:List AV->M AV
  | [.slice a n c,.str sep]=>do
    eV (Nat.ble n<|eG n c)
    let l ←firstCells 1 n (.slice a n c)
    let ts ←lift (qK l)
    eV (Nat.ble ((lH sep.data.toList ts).length+n) 1048576)
    pure (.str ⟨(lH sep.data.toList ts).toArray⟩)
  |_=>fail
def tM(P:Program)(f ntmps:Nat)(rs:List ResultVar)(body:Code)(Sy:aD)(args:List AV):M AV:=
 ay (Nat.ble (max ntmps args.length) top) <|
 (iL P Sy depth 2 ⟨f,bt args,max ntmps args.length,[.code body],[],none⟩).bind fun st=> @bK.rec (fun _=>M AV) (fun _=>fail) (fun fr j=>finish P rs fr j) st
def pN(P:Program)(cx:FuncId->Nat)(f:FuncId):kj<|aD->List AV->M AV:=
 match cx f with
 |2=>.mk fun _ args=>o5 args
 |3=>.mk fun _ args=>nN args
 |w=>match P.funcs[f]? with
  |none=>.mk fun _ _=>fail
  |some fn=>match fn.body with
   |none=>.mk fun _ _=>fail
   |some body=>match fn.name == "runtime.NumGoroutine" with
    |true=>.mk fun _ _=>fail
    |false=>match Nat.beq w 1 with
     |true=>.mk fun Sy args=>px P Sy f fn.ntmps fn.results.toList body args
     |false=>.mk<|tM P f fn.ntmps fn.results.toList body
def endRound(l:Nat)(j:Option Code):M AV:=(getLoop l).bind fun o=>match o with
 | .loop _ _ fn t nt ps a b d=>(aZ l<|some<|.loop (match j with|none=>.ready|some _=>.done) j fn t nt ps a b d).bind fun _=>M.pure<|.bool j.isNone
 |_=>fail
def qA(P:Program)(Sy:aD)(l:Nat)(args:List AV):M AV:=(getLoop l).bind fun o=>match o with
 | .loop _ _ fn t nt ps a b _=>
  ay (and (Nat.beq args.length ps.length)<|ps.all fun p=>Nat.blt p nt) <|
  (iL P Sy depth 2 ⟨fn,jh ps args t,nt,[.code a,.beginRound,.code b],[],some l⟩).bind fun st=> @bK.rec (fun _=>M AV) (fun _=>fail) (fun _ j=>endRound l j) st
 |_=>fail
def nf(P:Program)(cx:FuncId->Nat)(n:Nat):aD:= @Nat.rec (fun _=>aD) (fun _ _=>fail) (fun _ ih t args=> @w7.rec (fun _=>M AV) (fun f=>(pN P cx f).val ih args) (fun l=>qA P ih l args) (fun _ _ _=>fail) t) n
end
end Go.Rn
namespace Go.Rn
structure vS (A:Nat->Prop) (m0:Nat) (s t:AS):Prop where
 nx:s.nx=t.nx
 mark:s.mark=t.mark
 low:m0<=s.mark
 is:∀k,k<s.nx->(A k\/m0<=k)->s.h.get k=t.h.get k
structure aO (s:AS):Prop where
 mark:s.mark<=s.nx
 nx:s.nx<=top
structure gw (s s1:AS) (dr dw:List Nat):Prop where
 rd:s1.rd=dr++s.rd
 wr:s1.wr=dw++s.wr
 nx:s.nx<=s1.nx
 top:s1.nx<=top
 mark:s1.mark=s.mark
 same:∀k,k<s.mark->k ∉ dw->s1.h.get k=s.h.get k
 sub:∀k∈dw,k∈dr
 dk:∀k,s1.nx<=k->k<Rn.top->s1.h.get k=s.h.get k
theorem gw.bg{s s1:AS}{dr dw:List Nat}(f:aO s)(d:gw s s1 dr dw):aO s1:=⟨by rw[d.mark];exact Nat.le_trans f.mark d.nx,d.top⟩
structure l6 (A:Nat->Prop) (m0:Nat) (s1 t t1:AS) (dr dw:List Nat):Prop where
 jr:vS A m0 s1 t1
 rd:t1.rd=dr++t.rd
 wr:t1.wr=dw++t.wr
 same:∀k,k<m0->k ∉ dw->t1.h.get k=t.h.get k
 dk:∀k,s1.nx<=k->k<Rn.top->t1.h.get k=t.h.get k
def Sx{α:Type}(m:M α):Prop:=∀s v s1,aO s->m s= .ok v s1->∃dr dw,gw s s1 dr dw/\∀A m0 t,vS A m0 s t->(∀k∈dr,k<m0->A k)->∃t1,m t= .ok v t1/\l6 A m0 s1 t t1 dr dw
theorem M.bo{α β:Type}{m:M α}{f:α->M β}{s s1:AS}{a:α}(h:m s= .ok a s1):(m.bind f) s=f a s1:=by unfold M.bind;rw[h]
theorem M.Mm{α β:Type}{m:M α}{f:α->M β}{s:AS}(h:m s= .bad):(m.bind f) s= .bad:=by unfold M.bind;rw[h]
theorem M.aI{α β:Type}{m:M α}{f:α->M β}{s s2:AS}{b:β}(h:(m.bind f) s= .ok b s2):∃a s1,m s= .ok a s1/\f a s1= .ok b s2:=by
 cases e:m s with
 |bad=>rw[M.Mm e] at h;cases h
 |ok a s1=>rw[M.bo e] at h;exact⟨a,s1,rfl,h⟩
theorem bind_eq{α β:Type}(m:M α)(f:α->M β):(m >>= f)=m.bind f:=rfl
theorem Nj{α:Type}(a:α):(pure a:M α)=M.pure a:=rfl
theorem aP{α β:Type}(a:α)(f:α->M β):aA (some a) f=f a:=rfl
theorem bC{β:Type}(m:M β):ay true m=m:=rfl
theorem aX{α β:Type}{o:Option α}{f:α->M β}{s s1:AS}{b:β}(h:aA o f s= .ok b s1):∃a,o=some a/\f a s= .ok b s1:=by
 cases o with
 |none=>cases h
 |some a=>exact⟨a,rfl,h⟩
theorem bM{β:Type}{c:Bool}{m:M β}{s s1:AS}{b:β}(h:ay c m s= .ok b s1):c=true/\m s= .ok b s1:=by
 cases c with
 |false=>cases h
 |true=>exact⟨rfl,h⟩
theorem aM{α:Type}{a b:α}{s s1:AS}(h:M.pure a s= .ok b s1):b=a/\s1=s:=by cases h;exact⟨rfl,rfl⟩
theorem de{α:Type}{o:Option α}{b:α}{s s1:AS}(h:lift o s= .ok b s1):o=some b/\s1=s:=by
 cases o with
 |none=>cases h
 |some a=>cases h;exact⟨rfl,rfl⟩
theorem Sx.pure{α:Type}(a:α):Sx<|M.pure a:=by intro s v s1 fi h;obtain⟨rfl,rfl⟩:=aM h;exact⟨[],[],⟨rfl,rfl,Nat.le_refl _,fi.nx,rfl,fun _ _ _=>rfl,fun _ h=>h,fun _ _ _=>rfl⟩,fun A m0 t ag _=>⟨t,rfl,ag,rfl,rfl,fun _ _ _=>rfl,fun _ _ _=>rfl⟩⟩
theorem Sx.fail{α:Type}:Sx (fail:M α):=by intro s v s1 _ h;cases h
theorem Sx.aA{α β:Type}{o:Option α}{f:α->M β}(h:∀a,o=some a->Sx (f a)):Sx<|aA o f:=by
 cases o with
 |none=>exact Sx.fail
 |some a=>exact h a rfl
theorem Sx.ay{β:Type}{c:Bool}{m:M β}(h:c=true->Sx m):Sx<|ay c m:=by
 cases c with
 |false=>exact Sx.fail
 |true=>exact h rfl
theorem Sx.lift{α:Type}(o:Option α):Sx<|lift o:=by
 cases o with
 |none=>exact Sx.fail
 |some a=>exact Sx.pure a
theorem Sx.eV(b:Bool):Sx<|eV b:=by
 cases b with
 |false=>exact Sx.fail
 |true=>exact Sx.pure ()
theorem Sx.bind{α β:Type}{m:M α}{f:α->M β}(hm:Sx m)(hf:∀a,Sx<|f a):Sx<|m.bind f:=by
 intro s v s2 fi h;obtain⟨a,s1,h1,h2⟩:=M.aI h;obtain⟨dr,dw,d,x⟩:=hm s a s1 fi h1;obtain⟨kl,g9,d',x'⟩:=hf a s1 v s2 (d.bg fi) h2;refine⟨kl++dr,g9++dw,⟨by rw[d'.rd,d.rd,List.append_assoc],by rw[d'.wr,d.wr,List.append_assoc],Nat.le_trans d.nx d'.nx,d'.top,d'.mark.trans d.mark,?_,?_,?_⟩,?_⟩
 ·intro k hk hn;have mj:k ∉ g9:=fun e=>hn<|List.mem_append.2<|.inl e;have iZ:k ∉ dw:=fun e=>hn<|List.mem_append.2<|.inr e;exact(d'.same k (by rw[d.mark];exact hk) mj).trans<|d.same k hk iZ
 ·intro k hk;rcases List.mem_append.1 hk with e|e
  ·exact List.mem_append.2<|.inl<|d'.sub k e
  ·exact List.mem_append.2<|.inr<|d.sub k e
 ·intro k hk ht;exact(d'.dk k hk ht).trans<|d.dk k (Nat.le_trans d'.nx hk) ht
 ·intro A m0 t ag hA;obtain⟨t1,e1,al⟩:=x A m0 t ag fun k hk aS=>hA k (List.mem_append.2<|.inr hk) aS;obtain⟨t2,e2,km⟩:=x' A m0 t1 al.jr fun k hk aS=>hA k (List.mem_append.2<|.inl hk) aS;refine⟨t2,by rw[M.bo e1];exact e2,km.jr,by rw[km.rd,al.rd,List.append_assoc],by rw[km.wr,al.wr,List.append_assoc],?_,?_⟩
  ·intro k hk hn;have mj:k ∉ g9:=fun e=>hn<|List.mem_append.2<|.inl e;have iZ:k ∉ dw:=fun e=>hn<|List.mem_append.2<|.inr e;exact(km.same k hk mj).trans<|al.same k hk iZ
  ·intro k hk ht;exact(km.dk k hk ht).trans<|al.dk k (Nat.le_trans d'.nx hk) ht
theorem blt_eq(n m:Nat):(Nat.blt n m=true)=(n<m):=by show(Nat.ble (n+1) m=true)=_;rw[Nat.ble_eq];rfl
theorem tp{α:Type}(a b:α)(n m:Nat): @Bool.rec (fun _=>α) a b (Nat.blt n m)=if n<m then b else a:=by
 rw[Bu];by_cases h:n<m
 ·rw[if_pos h,if_pos (by rw[blt_eq];exact h)]
 ·rw[if_neg h,if_neg (by rw[blt_eq];exact h)]
theorem BQ{n:Nat}{o:U}{s s1:AS}(h:aY n s= .ok o s1):
 n<s.nx/\s.h.get n=some o/\s1=if n<s.mark then{s with rd:=n::s.rd} else s:=by
 obtain⟨hh,nx,mark,rd,wr⟩:=s;cases hb:Nat.blt n nx with
 |false=>
  have:aY n ⟨hh,nx,mark,rd,wr⟩= .bad:=by show @Bool.rec (fun _=>R U) .bad _ (Nat.blt n nx)=_;rw[hb]
  rw[this] at h;cases h
 |true=>
  cases hg:hh.get n with
  |none=>
   have:aY n ⟨hh,nx,mark,rd,wr⟩= .bad:=by show @Bool.rec (fun _=>R U) .bad (@Option.rec U (fun _=>R U) .bad _<|hh.get n) (Nat.blt n nx)=_;rw[hb,hg]
   rw[this] at h;cases h
  |some o'=>
   have:aY n ⟨hh,nx,mark,rd,wr⟩= @Bool.rec (fun _=>R U) (.ok o' ⟨hh,nx,mark,rd,wr⟩) (.ok o' ⟨hh,nx,mark,n::rd,wr⟩) (Nat.blt n mark):=by show @Bool.rec (fun _=>R U) .bad (@Option.rec U (fun _=>R U) .bad _<|hh.get n) (Nat.blt n nx)=_;rw[hb,hg]
   rw[this] at h;have aS:n<nx:=by rw[←blt_eq];exact hb
   cases hm:Nat.blt n mark with
   |false=>
    rw[hm] at h;cases h;have:¬n<mark:=by rw[←blt_eq,hm];simp
    exact⟨aS,by first|exact hg|rfl,by simp[this]⟩
   |true=>
    rw[hm] at h;cases h;have:n<mark:=by rw[←blt_eq];exact hm
    exact⟨aS,by first|exact hg|rfl,by simp[this]⟩
theorem Hw{n:Nat}{o:U}{s:AS}(h1:n<s.nx)(h2:s.h.get n=some o):
 aY n s= .ok o (if n<s.mark then{s with rd:=n::s.rd} else s):=by
 obtain⟨hh,nx,mark,rd,wr⟩:=s;have hb:Nat.blt n nx=true:=by rw[blt_eq];exact h1
 have hg:hh.get n=some o:=h2;show @Bool.rec (fun _=>R U) .bad (@Option.rec U (fun _=>R U) .bad (fun o=> @Bool.rec (fun _=>R U) (.ok o ⟨hh,nx,mark,rd,wr⟩) (.ok o ⟨hh,nx,mark,n::rd,wr⟩)<|Nat.blt n mark)<|hh.get n) (Nat.blt n nx)=_;rw[hb,hg];show @Bool.rec (fun _=>R U) _ _ (Nat.blt n mark)=_;rw[tp];by_cases e:n<mark<;>simp[e]
theorem G2{n:Nat}{o:Option U}{u:Unit}{s s1:AS}(h:aZ n o s= .ok u s1):
 n<s.nx/\n<top/\(∃p,s.h.get n=some p/\p.bN=false)/\s1=if n<s.mark then{s with h:=s.h.put n o,rd:=n::s.rd,wr:=n::s.wr} else{s with h:=s.h.put n o}:=by
 obtain⟨hh,nx,mark,rd,wr⟩:=s;have e:aZ n o ⟨hh,nx,mark,rd,wr⟩= @Bool.rec (fun _=>R Unit) .bad
  (@Option.rec U (fun _=>R Unit) .bad
   (fun p=> @Bool.rec (fun _=>R Unit)
    (@Bool.rec (fun _=>R Unit) (.ok () ⟨hh.put n o,nx,mark,rd,wr⟩) (.ok () ⟨hh.put n o,nx,mark,n::rd,n::wr⟩)<|Nat.blt n mark)
    .bad p.bN)
   (hh.get n))
  (and (Nat.blt n nx)<|Nat.blt n top):=rfl
 rw[e] at h;cases hb:and (Nat.blt n nx) (Nat.blt n top) with
 |false=>rw[hb] at h;cases h
 |true=>
  rw[hb] at h;have eD:=Bool.and_eq_true_iff.1 hb;rw[blt_eq,blt_eq] at eD;cases hg:hh.get n with
  |none=>rw[hg] at h;cases h
  |some p=>
   rw[hg] at h;cases hr:p.bN with
   |true=>
    have h': @Bool.rec (fun _=>R Unit)
     (@Bool.rec (fun _=>R Unit) (.ok () ⟨hh.put n o,nx,mark,rd,wr⟩) (.ok () ⟨hh.put n o,nx,mark,n::rd,n::wr⟩)<|Nat.blt n mark)
     .bad p.bN= .ok u s1:=h
    rw[hr] at h';cases h'
   |false=>
    have h': @Bool.rec (fun _=>R Unit)
     (@Bool.rec (fun _=>R Unit) (.ok () ⟨hh.put n o,nx,mark,rd,wr⟩) (.ok () ⟨hh.put n o,nx,mark,n::rd,n::wr⟩)<|Nat.blt n mark)
     .bad p.bN= .ok u s1:=h
    rw[hr] at h';refine⟨eD.1,eD.2,⟨p,by first|exact hg|rfl,hr⟩,?_⟩;have w9: @Bool.rec (fun _=>R Unit) (.ok () ⟨hh.put n o,nx,mark,rd,wr⟩) (.ok () ⟨hh.put n o,nx,mark,n::rd,n::wr⟩) (Nat.blt n mark)= .ok u s1:=h';rw[tp] at w9;by_cases e:n<mark
    ·rw[if_pos e] at w9;injection w9 with _ h3;simp[e, ←h3]
    ·rw[if_neg e] at w9;injection w9 with _ h3;simp[e, ←h3]
theorem Hx{n:Nat}{o:Option U}{s:AS}{p:U}(h1:n<s.nx)(h2:n<top)(h3:s.h.get n=some p)(h4:p.bN=false):
 aZ n o s= .ok () (if n<s.mark then{s with h:=s.h.put n o,rd:=n::s.rd,wr:=n::s.wr} else{s with h:=s.h.put n o}):=by
 obtain⟨hh,nx,mark,rd,wr⟩:=s;have e:aZ n o ⟨hh,nx,mark,rd,wr⟩= @Bool.rec (fun _=>R Unit) .bad
  (@Option.rec U (fun _=>R Unit) .bad
   (fun p=> @Bool.rec (fun _=>R Unit)
    (@Bool.rec (fun _=>R Unit) (.ok () ⟨hh.put n o,nx,mark,rd,wr⟩) (.ok () ⟨hh.put n o,nx,mark,n::rd,n::wr⟩)<|Nat.blt n mark)
    .bad p.bN)
   (hh.get n))
  (and (Nat.blt n nx)<|Nat.blt n top):=rfl
 have hb:and (Nat.blt n nx) (Nat.blt n top)=true:=Bool.and_eq_true_iff.2 ⟨by rw[blt_eq];exact h1,by rw[blt_eq];exact h2⟩;have hg:hh.get n=some p:=h3;rw[e,hb,hg];show @Bool.rec (fun _=>R Unit) (@Bool.rec (fun _=>R Unit) (.ok () ⟨hh.put n o,nx,mark,rd,wr⟩) (.ok () ⟨hh.put n o,nx,mark,n::rd,n::wr⟩)<|Nat.blt n mark) .bad p.bN=_;rw[h4];show @Bool.rec (fun _=>R Unit) (.ok () ⟨hh.put n o,nx,mark,rd,wr⟩) (.ok () ⟨hh.put n o,nx,mark,n::rd,n::wr⟩) (Nat.blt n mark)=_;rw[tp];by_cases e:n<mark<;>simp[e]
theorem jQ{o:U}{n:Nat}{s s1:AS}(h:cN o s= .ok n s1):s.nx<top/\n=s.nx/\s1={s with h:=s.h.put s.nx<|some o,nx:=s.nx+1}:=by
 obtain⟨hh,nx,mark,rd,wr⟩:=s;have e:cN o ⟨hh,nx,mark,rd,wr⟩= @Bool.rec (fun _=>R Nat) .bad (forced nx fun m=>.ok m ⟨hh.put m<|some o,m+1,mark,rd,wr⟩) (Nat.blt nx top):=rfl;rw[e,o3] at h;cases hb:Nat.blt nx top with
 |false=>rw[hb] at h;cases h
 |true=>rw[hb] at h;cases h;exact⟨by rw[←blt_eq];exact hb,rfl,rfl⟩
theorem BR{o:U}{s:AS}(h:s.nx<top):cN o s= .ok s.nx {s with h:=s.h.put s.nx<|some o,nx:=s.nx+1}:=by
 obtain⟨hh,nx,mark,rd,wr⟩:=s;have e:cN o ⟨hh,nx,mark,rd,wr⟩= @Bool.rec (fun _=>R Nat) .bad (forced nx fun m=>.ok m ⟨hh.put m<|some o,m+1,mark,rd,wr⟩) (Nat.blt nx top):=rfl;have hb:Nat.blt nx top=true:=by rw[blt_eq];exact h
 rw[e,o3,hb]
theorem Sx.aY(n:Nat):Sx<|aY n:=by
 intro s v s1 fi h;obtain⟨h1,h2,rfl⟩:=BQ h;by_cases e:n<s.mark
 ·rw[if_pos e];refine⟨[n],[],⟨rfl,rfl,Nat.le_refl _,fi.nx,rfl,fun _ _ _=>rfl,fun _ h=>(by cases h),fun _ _ _=>rfl⟩,fun A m0 t ag hA=>?_⟩;have hq:A n\/m0<=n:=by
   by_cases q:n<m0
   ·exact .inl<|hA n (by simp) q
   ·exact .inr (by omega)
  have hg:=ag.is n h1 hq;have hr:=Hw (o:=v) (s:=t) (n:=n) (by rw[←ag.nx];exact h1) (by rw[←hg];exact h2);rw[←ag.mark,if_pos e] at hr;exact⟨_,hr,⟨ag.nx,by first|exact ag.mark|rfl,ag.low,ag.is⟩,rfl,rfl,fun _ _ _=>rfl,fun _ _ _=>rfl⟩
 ·rw[if_neg e];refine⟨[],[],⟨rfl,rfl,Nat.le_refl _,fi.nx,rfl,fun _ _ _=>rfl,fun _ h=>(by cases h),fun _ _ _=>rfl⟩,fun A m0 t ag hA=>?_⟩;have hg:=ag.is n h1 (.inr<|Nat.le_trans ag.low<|by omega);have hr:=Hw (o:=v) (s:=t) (n:=n) (by rw[←ag.nx];exact h1) (by rw[←hg];exact h2);rw[←ag.mark,if_neg e] at hr;exact⟨_,hr,ag,rfl,rfl,fun _ _ _=>rfl,fun _ _ _=>rfl⟩
theorem Sx.aZ(n:Nat)(o:Option U):Sx<|aZ n o:=by
 intro s v s1 fi h;obtain⟨h1,ht,⟨p,h2,h3⟩,rfl⟩:=G2 h;by_cases e:n<s.mark
 ·rw[if_pos e];refine⟨[n],[n],⟨rfl,rfl,Nat.le_refl _,fi.nx,rfl,fun k hk hn=>?_,fun _ h=>h,fun k hk dZ=>?_⟩,fun A m0 t ag hA=>?_⟩
  ·show(s.h.put n o).get k=_;rw[Tr.cJ _ _ _ _ ht (by have:=fi.mark;have:=fi.nx;omega),if_neg<|by simpa using hn]
  ·show(s.h.put n o).get k=_;have:s.nx<=k:=hk;rw[Tr.cJ _ _ _ _ ht dZ,if_neg<|by omega]
  ·have hq:A n\/m0<=n:=by
    by_cases q:n<m0
    ·exact .inl<|hA n (by simp) q
    ·exact .inr (by omega)
   have hg:=ag.is n h1 hq;have hr:=Hx (o:=o) (s:=t) (n:=n) (p:=p) (by rw[←ag.nx];exact h1) ht (by rw[←hg];exact h2) h3;rw[←ag.mark,if_pos e] at hr;refine⟨_,hr,⟨ag.nx,by first|exact ag.mark|rfl,ag.low,fun k hk hq=>?_⟩,rfl,rfl,fun k hk hn=>?_,fun k hk dZ=>?_⟩
   ·show(s.h.put n o).get k=(t.h.put n o).get k;have gI:k<s.nx:=hk;have:=fi.nx;rw[Tr.cJ _ _ _ _ ht (by omega),Tr.cJ _ _ _ _ ht<|by omega];by_cases q:k=n
    ·simp[q]
    ·rw[if_neg q,if_neg q];exact ag.is k hk hq
   ·show(t.h.put n o).get k=_;have:=fi.mark;have:=fi.nx;have:=ag.low;rw[Tr.cJ _ _ _ _ ht (by omega),if_neg<|by simpa using hn]
   ·show(t.h.put n o).get k=_;have:s.nx<=k:=hk;rw[Tr.cJ _ _ _ _ ht dZ,if_neg<|by omega]
 ·rw[if_neg e];refine⟨[],[],⟨rfl,rfl,Nat.le_refl _,fi.nx,rfl,fun k hk hn=>?_,fun _ h=>h,fun k hk dZ=>?_⟩,fun A m0 t ag hA=>?_⟩
  ·show(s.h.put n o).get k=_;have:=fi.mark;have:=fi.nx;rw[Tr.cJ _ _ _ _ ht (by omega),if_neg<|by omega]
  ·show(s.h.put n o).get k=_;have:s.nx<=k:=hk;rw[Tr.cJ _ _ _ _ ht dZ,if_neg<|by omega]
  ·have hg:=ag.is n h1 (.inr<|Nat.le_trans ag.low<|by omega);have hr:=Hx (o:=o) (s:=t) (n:=n) (p:=p) (by rw[←ag.nx];exact h1) ht (by rw[←hg];exact h2) h3;rw[←ag.mark,if_neg e] at hr;refine⟨_,hr,⟨ag.nx,by first|exact ag.mark|rfl,ag.low,fun k hk hq=>?_⟩,rfl,rfl,fun k hk hn=>?_,fun k hk dZ=>?_⟩
   ·show(s.h.put n o).get k=(t.h.put n o).get k;have gI:k<s.nx:=hk;have:=fi.nx;rw[Tr.cJ _ _ _ _ ht (by omega),Tr.cJ _ _ _ _ ht<|by omega];by_cases q:k=n
    ·simp[q]
    ·rw[if_neg q,if_neg q];exact ag.is k hk hq
   ·show(t.h.put n o).get k=_;have:=fi.mark;have:=fi.nx;have:=ag.low;rw[Tr.cJ _ _ _ _ ht (by omega),if_neg<|by omega]
   ·show(t.h.put n o).get k=_;have:s.nx<=k:=hk;rw[Tr.cJ _ _ _ _ ht dZ,if_neg<|by omega]
theorem Sx.cN(o:U):Sx<|cN o:=by
 intro s v s1 fi h;obtain⟨ht,rfl,rfl⟩:=jQ h;refine⟨[],[],⟨rfl,rfl,Nat.le_succ _,ht,rfl,fun k hk hn=>?_,fun _ h=>h,fun k hk dZ=>?_⟩,fun A m0 t ag hA=>?_⟩
 ·show(s.h.put s.nx<|some o).get k=_;have:=fi.mark;have:=fi.nx;rw[Tr.cJ _ _ _ _ ht (by omega),if_neg<|by omega]
 ·show(s.h.put s.nx<|some o).get k=_;have:s.nx+1<=k:=hk;rw[Tr.cJ _ _ _ _ ht dZ,if_neg<|by omega]
 ·have hr:=BR (o:=o) (s:=t) (by rw[←ag.nx];exact ht);rw[←ag.nx] at hr;refine⟨_,hr,⟨rfl,ag.mark,ag.low,fun k hk hq=>?_⟩,rfl,rfl,fun k hk hn=>?_,fun k hk dZ=>?_⟩
  ·show(s.h.put s.nx<|some o).get k=(t.h.put s.nx<|some o).get k;have gI:k<s.nx+1:=hk;rw[Tr.cJ _ _ _ _ ht (by omega),Tr.cJ _ _ _ _ ht<|by omega];by_cases q:k=s.nx
   ·simp[q]
   ·rw[if_neg q,if_neg q];exact ag.is k (by omega) hq
  ·show(t.h.put s.nx<|some o).get k=_;have:=fi.mark;have:=fi.nx;have:=ag.low;rw[Tr.cJ _ _ _ _ ht (by omega),if_neg<|by omega]
  ·show(t.h.put s.nx<|some o).get k=_;have:s.nx+1<=k:=hk;rw[Tr.cJ _ _ _ _ ht dZ,if_neg<|by omega]
end Go.Rn
namespace Go.Rn
theorem Sx.dG(n off k:Nat):Sx<|dG n off k:=by
 cases k with
 |zero=>exact Sx.pure _
 |succ k=>
  unfold Rn.dG
  repeat' (first
  |exact Sx.pure _|exact Sx.fail|exact Sx.lift _|exact Sx.aY _
  |refine Sx.aA (fun _ _=>?_)|refine Sx.ay (fun _=>?_)|refine Sx.bind ?_ (fun _=>?_)
  |split)
theorem Sx.jg(n off:Nat)(l:List AV):Sx<|jg n off l:=by
 unfold Rn.jg
 repeat' (first
  |exact Sx.pure _|exact Sx.fail|exact Sx.aY _|exact Sx.aZ _ _
  |exact Sx.fail
  |refine Sx.aA (fun _ _=>?_)|refine Sx.ay (fun _=>?_)|refine Sx.bind ?_ (fun _=>?_)
  |split)
theorem Sx.newRow(l:List AV):Sx<|newRow l:=by
 unfold Rn.newRow
 repeat' (first
  |exact Sx.pure _|exact Sx.fail|exact Sx.cN _
  |exact Sx.fail
  |refine Sx.aA (fun _ _=>?_)|refine Sx.ay (fun _=>?_)|refine Sx.bind ?_ (fun _=>?_)
  |split)
theorem Sx.loadVar(P:Program)(t:TypeId)(n off:Nat):Sx<|loadVar P t n off:=by
 unfold Rn.loadVar
 repeat' (first
  |exact Sx.pure _|exact Sx.fail|exact Sx.lift _
  |exact Sx.fail|exact Sx.dG _ _ _
  |refine Sx.aA (fun _ _=>?_)|refine Sx.ay (fun _=>?_)|refine Sx.bind ?_ (fun _=>?_)
  |split)
theorem Sx.nR(P:Program)(t:TypeId)(n off:Nat):Sx<|nR P t n off:=by
 unfold Rn.nR
 repeat' (first
  |exact Sx.pure _|exact Sx.fail|exact Sx.lift _|exact Sx.aY _
  |exact Sx.fail
  |refine Sx.aA (fun _ _=>?_)|refine Sx.ay (fun _=>?_)|refine Sx.bind ?_ (fun _=>?_)
  |split)
theorem Sx.mP(P:Program)(t:TypeId){Sy:aD}(bd:∀t a,Sx<|Sy t a)(n o:Nat):Sx<|mP P t Sy n o:=by
 unfold Rn.mP
 repeat' (first
  |exact Sx.pure _|exact Sx.fail|exact Sx.lift _
  |exact bd _ _
  |refine Sx.aA (fun _ _=>?_)|refine Sx.ay (fun _=>?_)|refine Sx.bind ?_ (fun _=>?_)
  |split)
theorem Sx.loadAt(P:Program)(t:TypeId){Sy:aD}(bd:∀t a,Sx<|Sy t a)(a:AV):Sx<|loadAt P t Sy a:=by
 unfold Rn.loadAt
 repeat' (first
  |exact Sx.pure _|exact Sx.fail
  |exact bd _ _|exact Sx.loadVar _ _ _ _|exact Sx.nR _ _ _ _|exact Sx.mP _ _ bd _ _
  |refine Sx.aA (fun _ _=>?_)|refine Sx.ay (fun _=>?_)|refine Sx.bind ?_ (fun _=>?_)
  |split)
theorem Sx.storeVar(P:Program)(t:TypeId)(n off:Nat)(v:AV):Sx<|storeVar P t n off v:=by
 unfold Rn.storeVar
 repeat' (first
  |exact Sx.pure _|exact Sx.fail
  |exact Sx.fail|exact Sx.jg _ _ _
  |refine Sx.aA (fun _ _=>?_)|refine Sx.ay (fun _=>?_)|refine Sx.bind ?_ (fun _=>?_)
  |split)
theorem Sx.buildSlice(P:Program)(t:TypeId)(len:Nat)(parts:List<|Nat×AV):Sx<|buildSlice P t len parts:=by
 unfold Rn.buildSlice
 repeat' (first
  |exact Sx.pure _|exact Sx.fail|exact Sx.lift _|exact Sx.eV _
  |exact Sx.fail|exact Sx.newRow _
  |refine Sx.aA (fun _ _=>?_)|refine Sx.ay (fun _=>?_)|refine Sx.bind ?_ (fun _=>?_)
  |split)
theorem Sx.makeSlice(P:Program)(t:TypeId)(len cap:AV):Sx<|makeSlice P t len cap:=by
 unfold Rn.makeSlice
 repeat' (first
  |exact Sx.pure _|exact Sx.fail|exact Sx.cN _
  |exact Sx.fail
  |refine Sx.aA (fun _ _=>?_)|refine Sx.ay (fun _=>?_)|refine Sx.bind ?_ (fun _=>?_)
  |split)
theorem Sx.firstCells(size n:Nat)(v:AV):Sx<|firstCells size n v:=by
 unfold Rn.firstCells
 repeat' (first
  |exact Sx.pure _|exact Sx.fail
  |exact Sx.fail|exact Sx.dG _ _ _
  |refine Sx.aA (fun _ _=>?_)|refine Sx.ay (fun _=>?_)|refine Sx.bind ?_ (fun _=>?_)
  |split)
theorem Sx.grown(a b c:Nat)(l m:List AV):Sx<|grown a b c l m:=by
 unfold Rn.grown
 repeat' (first
  |exact Sx.pure _|exact Sx.fail
  |exact Sx.fail|exact Sx.newRow _
  |refine Sx.aA (fun _ _=>?_)|refine Sx.ay (fun _=>?_)|refine Sx.bind ?_ (fun _=>?_)
  |split)
theorem Sx.nL(n off:Nat)(l:List AV):Sx<|nL n off l:=by
 unfold Rn.nL
 repeat' (first
  |exact Sx.pure _|exact Sx.fail|exact Sx.aY _|exact Sx.aZ _ _
  |exact Sx.fail
  |refine Sx.aA (fun _ _=>?_)|refine Sx.ay (fun _=>?_)|refine Sx.bind ?_ (fun _=>?_)
  |split)
theorem Sx.kz(size bytes:Nat)(base:Option<|Nat×Nat)(len:Nat)(cap:bc)(n:Nat)(new:List AV):Sx<|kz size bytes base len cap n new:=by
 unfold Rn.kz
 repeat' (first
  |exact Sx.pure _|exact Sx.fail|exact Sx.aY _|exact Sx.aZ _ _
  |exact Sx.fail|exact Sx.dG _ _ _|exact Sx.jg _ _ _|exact Sx.firstCells _ _ _|exact Sx.grown _ _ _ _ _|exact Sx.nL _ _ _
  |refine Sx.aA (fun _ _=>?_)|refine Sx.ay (fun _=>?_)|refine Sx.bind ?_ (fun _=>?_)
  |split)
theorem Sx.ji(P:Program)(ts:Array TypeId)(s x:AV):Sx<|ji P ts s x:=by
 unfold Rn.ji
 repeat' (first
  |exact Sx.pure _|exact Sx.fail
  |exact Sx.fail|exact Sx.firstCells _ _ _|exact Sx.kz _ _ _ _ _ _ _
  |refine Sx.aA (fun _ _=>?_)|refine Sx.ay (fun _=>?_)|refine Sx.bind ?_ (fun _=>?_)
  |split)
theorem Sx.pf(P:Program)(ts:Array TypeId)(s x:AV):Sx<|pf P ts s x:=by
 unfold Rn.pf
 repeat' (first
  |exact Sx.pure _|exact Sx.fail
  |exact Sx.fail|exact Sx.jg _ _ _|exact Sx.firstCells _ _ _
  |refine Sx.aA (fun _ _=>?_)|refine Sx.ay (fun _=>?_)|refine Sx.bind ?_ (fun _=>?_)
  |split)
theorem Sx.jW(r:Nat):Sx<|jW r:=by
 unfold Rn.jW
 repeat' (first
  |exact Sx.pure _|exact Sx.fail|exact Sx.aY _
  |exact Sx.fail
  |refine Sx.aA (fun _ _=>?_)|refine Sx.ay (fun _=>?_)|refine Sx.bind ?_ (fun _=>?_)
  |split)
theorem Sx.mN(P:Program)(k:TypeId)(a x:AV):Sx<|mN P k a x:=by
 unfold Rn.mN
 repeat' (first
  |exact Sx.pure _|exact Sx.fail|exact Sx.aY _
  |exact Sx.fail
  |refine Sx.aA (fun _ _=>?_)|refine Sx.ay (fun _=>?_)|refine Sx.bind ?_ (fun _=>?_)
  |split)
theorem Sx.pq(r:Nat)(a b:AV)(l:List<|AV×AV)(c:Nat)(f:Option<|Nat×AV):Sx<|pq r a b l c f:=by
 unfold Rn.pq
 repeat' (first
  |exact Sx.pure _|exact Sx.fail|exact Sx.aZ _ _
  |exact Sx.fail
  |refine Sx.aA (fun _ _=>?_)|refine Sx.ay (fun _=>?_)|refine Sx.bind ?_ (fun _=>?_)
  |split)
theorem Sx.qq(r:Nat)(a b:AV)(l:List<|AV×AV)(f:Option<|Nat×AV):Sx<|qq r a b l f:=by
 unfold Rn.qq
 repeat' (first
  |exact Sx.pure _|exact Sx.fail|exact Sx.aZ _ _
  |exact Sx.fail
  |refine Sx.aA (fun _ _=>?_)|refine Sx.ay (fun _=>?_)|refine Sx.bind ?_ (fun _=>?_)
  |split)
theorem Sx.jR(P:Program)(t:TypeId)(x k:AV)(ok:Bool):Sx<|jR P t x k ok:=by
 unfold Rn.jR
 repeat' (first
  |exact Sx.pure _|exact Sx.fail
  |exact Sx.fail|exact Sx.mN _ _ _ _
  |refine Sx.aA (fun _ _=>?_)|refine Sx.ay (fun _=>?_)|refine Sx.bind ?_ (fun _=>?_)
  |split)
theorem Sx.iJ(P:Program)(t:TypeId)(m k v:AV):Sx<|iJ P t m k v:=by
 unfold Rn.iJ
 repeat' (first
  |exact Sx.pure _|exact Sx.fail|exact Sx.aY _
  |exact Sx.fail|exact Sx.pq _ _ _ _ _ _|exact Sx.qq _ _ _ _ _
  |refine Sx.aA (fun _ _=>?_)|refine Sx.ay (fun _=>?_)|refine Sx.bind ?_ (fun _=>?_)
  |split)
theorem Sx.pF(P:Program)(ts:Array TypeId)(x:AV):Sx<|pF P ts x:=by
 unfold Rn.pF
 repeat' (first
  |exact Sx.pure _|exact Sx.fail|exact Sx.lift _
  |exact Sx.fail|exact Sx.jW _
  |refine Sx.aA (fun _ _=>?_)|refine Sx.ay (fun _=>?_)|refine Sx.bind ?_ (fun _=>?_)
  |split)
theorem Sx.pg(P:Program)(ts:Array TypeId)(x:AV):Sx<|pg P ts x:=by
 unfold Rn.pg
 repeat' (first
  |exact Sx.pure _|exact Sx.fail|exact Sx.lift _|exact Sx.eV _
  |exact Sx.fail|exact Sx.jg _ _ _
  |refine Sx.aA (fun _ _=>?_)|refine Sx.ay (fun _=>?_)|refine Sx.bind ?_ (fun _=>?_)
  |split)
theorem Sx.o4(P:Program)(b:Builtin)(ts:Array TypeId)(l:List AV):Sx<|o4 P b ts l:=by
 unfold Rn.o4
 repeat' (first
  |exact Sx.pure _|exact Sx.fail|exact Sx.lift _
  |exact Sx.fail|exact Sx.ji _ _ _ _|exact Sx.pf _ _ _ _|exact Sx.pF _ _ _|exact Sx.pg _ _ _
  |refine Sx.aA (fun _ _=>?_)|refine Sx.ay (fun _=>?_)|refine Sx.bind ?_ (fun _=>?_)
  |split)
theorem Sx.toText(P:Program)(a b:TypeId)(x:AV)(n:Nat):Sx<|toText P a b x n:=by
 unfold Rn.toText
 repeat' (first
  |exact Sx.pure _|exact Sx.fail
  |exact Sx.fail|exact Sx.firstCells _ _ _
  |refine Sx.aA (fun _ _=>?_)|refine Sx.ay (fun _=>?_)|refine Sx.bind ?_ (fun _=>?_)
  |split)
theorem Sx.zeroOf(x:AV)(n:Nat):Sx<|zeroOf x n:=by
 unfold Rn.zeroOf
 repeat' (first
  |exact Sx.pure _|exact Sx.fail|exact Sx.aY _
  |exact Sx.fail
  |refine Sx.aA (fun _ _=>?_)|refine Sx.ay (fun _=>?_)|refine Sx.bind ?_ (fun _=>?_)
  |split)
theorem Sx.toZero(P:Program)(a b:TypeId)(x:AV)(n:Nat):Sx<|toZero P a b x n:=by
 unfold Rn.toZero
 repeat' (first
  |exact Sx.pure _|exact Sx.fail
  |exact Sx.fail|exact Sx.zeroOf _ _
  |refine Sx.aA (fun _ _=>?_)|refine Sx.ay (fun _=>?_)|refine Sx.bind ?_ (fun _=>?_)
  |split)
theorem Sx.qH(P:Program)(a:TypeId)(x:AV):Sx<|qH P a x:=by
 unfold Rn.qH
 repeat' (first
  |exact Sx.pure _|exact Sx.fail|exact Sx.aY _|exact Sx.aZ _ _|exact Sx.cN _
  |exact Sx.fail
  |refine Sx.aA (fun _ _=>?_)|refine Sx.ay (fun _=>?_)|refine Sx.bind ?_ (fun _=>?_)
  |split)
theorem Sx.tm(x:AV):Sx<|tm x:=by
 unfold Rn.tm
 repeat' (first
  |exact Sx.pure _|exact Sx.fail|exact Sx.aY _
  |exact Sx.fail
  |refine Sx.aA (fun _ _=>?_)|refine Sx.ay (fun _=>?_)|refine Sx.bind ?_ (fun _=>?_)
  |split)
theorem Sx.tl(x:AV):Sx<|tl x:=by
 unfold Rn.tl
 repeat' (first
  |exact Sx.pure _|exact Sx.fail|exact Sx.aY _|exact Sx.aZ _ _
  |exact Sx.fail
  |refine Sx.aA (fun _ _=>?_)|refine Sx.ay (fun _=>?_)|refine Sx.bind ?_ (fun _=>?_)
  |split)
theorem Sx.lJ{Sy:aD}(bd:∀t a,Sx<|Sy t a)(n o k:Nat):Sx<|lJ Sy n o k:=by
 unfold Rn.lJ
 repeat' (first
  |exact Sx.pure _|exact Sx.fail
  |exact bd _ _
  |refine Sx.aA (fun _ _=>?_)|refine Sx.ay (fun _=>?_)|refine Sx.bind ?_ (fun _=>?_)
  |split)
theorem Sx.ib{Sy:aD}(bd:∀t a,Sx<|Sy t a)(f:AV)(l:List AV):Sx<|ib Sy f l:=by
 unfold Rn.ib
 repeat' (first
  |exact Sx.pure _|exact Sx.fail
  |exact bd _ _
  |refine Sx.aA (fun _ _=>?_)|refine Sx.ay (fun _=>?_)|refine Sx.bind ?_ (fun _=>?_)
  |split)
theorem Sx.w8(P:Program){Sy:aD}(bd:∀t a,Sx<|Sy t a)(t:Tr AV)(op:Op):Sx<|w8 P Sy t op:=by unfold Rn.w8 Rn.bz;split<;>simp only[kj.val]<;>(first|unfold Rn.mW|unfold Rn.rb|unfold Rn.y9|unfold Rn.ru|unfold Rn.qP|unfold Rn.qg|unfold Rn.lW|unfold Rn.nU|unfold Rn.qk|unfold Rn.fL|unfold Rn.rM|unfold Rn.qu|unfold Rn.qe|unfold Rn.ql|unfold Rn.qv|unfold Rn.nJ|unfold Rn.jX|unfold Rn.qj|unfold Rn.qQ|unfold Rn.jO|unfold Rn.qR|unfold Rn.jS|unfold Rn.gP|unfold Rn.qG|unfold Rn.qS|unfold Rn.qT|unfold Rn.qw|unfold Rn.qx|unfold Rn.iG|unfold Rn.lX|unfold Rn.qJ|unfold Rn.HV)<;>(repeat' (first|exact Sx.pure _|exact Sx.fail|exact Sx.lift _|exact Sx.eV _|exact Sx.aY _|exact Sx.aZ _ _|exact Sx.cN _|exact bd _ _|exact Sx.dG _ _ _|exact Sx.jg _ _ _|exact Sx.newRow _|exact Sx.loadVar _ _ _ _|exact Sx.nR _ _ _ _|exact Sx.loadAt _ _ bd _|exact Sx.storeVar _ _ _ _ _|exact Sx.buildSlice _ _ _ _|exact Sx.makeSlice _ _ _ _|exact Sx.firstCells _ _ _|exact Sx.grown _ _ _ _ _|exact Sx.nL _ _ _|exact Sx.kz _ _ _ _ _ _ _|exact Sx.ji _ _ _ _|exact Sx.pf _ _ _ _|exact Sx.jW _|exact Sx.mN _ _ _ _|exact Sx.pq _ _ _ _ _ _|exact Sx.qq _ _ _ _ _|exact Sx.jR _ _ _ _ _|exact Sx.iJ _ _ _ _ _|exact Sx.pF _ _ _|exact Sx.pg _ _ _|exact Sx.o4 _ _ _ _|exact Sx.toText _ _ _ _ _|exact Sx.zeroOf _ _|exact Sx.toZero _ _ _ _ _|exact Sx.qH _ _ _|exact Sx.tm _|exact Sx.tl _|exact Sx.ib bd _ _|exact Sx.lJ bd _ _ _|refine Sx.aA (fun _ _=>?_)|refine Sx.ay (fun _=>?_)|refine Sx.bind ?_ (fun _=>?_)|split))
end Go.Rn
namespace Go.Rn
theorem kB{k m:Nat}{l:List Nat}:k∈below m l↔k∈l/\k<m:=by
 have h1:∀l:List Nat,k∈mL m l↔k∈l/\k<m:=by
  intro l;induction l with
  |nil=>simp[mL]
  |cons x l ih=>
   have e:mL m (x::l)=if m<=x then mL m l else x::mL m l:=by
    show @Bool.rec (fun _=>List Nat) (mL m l) (x::mL m l) (not<|Nat.ble m x)=_;by_cases h:m<=x
    ·have:Nat.ble m x=true:=by rw[Nat.ble_eq];exact h
     rw[this,if_pos h];rfl
    ·have:Nat.ble m x=false:=by
      cases q:Nat.ble m x with
      |false=>rfl
      |true=>rw[Nat.ble_eq] at q;exact absurd q h
     rw[this,if_neg h];rfl
   rw[e];by_cases h:m<=x
   ·rw[if_pos h,ih];constructor
    ·rintro ⟨a,b⟩;exact⟨List.mem_cons_of_mem _ a,b⟩
    ·rintro ⟨a,b⟩;rcases List.mem_cons.1 a with rfl|a
     ·omega
     ·exact⟨a,b⟩
   ·rw[if_neg h,List.mem_cons,ih,List.mem_cons];constructor
    ·rintro (rfl|⟨a,b⟩)
     ·exact⟨.inl rfl,by omega⟩
     ·exact⟨.inr a,b⟩
    ·rintro ⟨rfl|a,b⟩
     ·exact .inl rfl
     ·exact .inr ⟨a,b⟩
 have e:below m l=if m=0 then[] else mL m l:=by
  show @Bool.rec (fun _=>List Nat) (mL m l) [] (Nat.beq m 0)=_;rw[Bu];by_cases h:m=0
  ·rw[if_pos h,if_pos (by rw[beq_eq];exact h)]
  ·rw[if_neg h,if_neg (by rw[beq_eq];exact h)]
 rw[e];by_cases h:m=0
 ·rw[if_pos h];subst h;simp
 ·rw[if_neg h,h1]
theorem FI{α:Type}{i:Nat}{m:M α}{s s2:AS}{x:α×bI}(h:alone i m s= .ok x s2):
 ∃a s1,m ⟨s.h,s.nx,s.nx,[],[]⟩= .ok a s1/\x=(a,⟨i,below s.nx s1.rd,below s.nx s1.wr,s.nx,s1.nx⟩)/\s2=⟨s1.h,s1.nx,s.mark,below s.mark s1.rd++s.rd,below s.mark s1.wr++s.wr⟩:=by
 obtain⟨hh,nx,mark,rd,wr⟩:=s;have e:alone i m ⟨hh,nx,mark,rd,wr⟩=forced nx fun lo=>
  @R.rec α (fun _=>R<|α×bI) .bad (fun a s1=>
   @AS.rec (fun _=>R<|α×bI) (fun h1 dO _ dc iB=>forced dO fun hi=>.ok (a,⟨i,below lo dc,below lo iB,lo,hi⟩) ⟨h1,hi,mark,below mark dc++rd,below mark iB++wr⟩) s1)
   (m ⟨hh,lo,lo,[],[]⟩):=rfl
 rw[e,o3] at h;cases hm:m ⟨hh,nx,nx,[],[]⟩ with
 |bad=>rw[hm] at h;cases h
 |ok a s1=>rw[hm] at h;obtain⟨h1,dO,CC,dc,iB⟩:=s1;have h':forced dO (fun hi=>R.ok (a,(⟨i,below nx dc,below nx iB,nx,hi⟩:bI)) (⟨h1,hi,mark,below mark dc++rd,below mark iB++wr⟩:AS))= .ok x s2:=h;rw[o3] at h';cases h';exact⟨a,⟨h1,dO,CC,dc,iB⟩,by first|exact hm|rfl,rfl,rfl⟩
theorem Mn{α:Type}{i:Nat}{m:M α}{s s1:AS}{a:α}(h:m ⟨s.h,s.nx,s.nx,[],[]⟩= .ok a s1):
 alone i m s= .ok (a,⟨i,below s.nx s1.rd,below s.nx s1.wr,s.nx,s1.nx⟩) ⟨s1.h,s1.nx,s.mark,below s.mark s1.rd++s.rd,below s.mark s1.wr++s.wr⟩:=by
 obtain⟨hh,nx,mark,rd,wr⟩:=s;have e:alone i m ⟨hh,nx,mark,rd,wr⟩=forced nx fun lo=>
  @R.rec α (fun _=>R<|α×bI) .bad (fun a s1=>
   @AS.rec (fun _=>R<|α×bI) (fun h1 dO _ dc iB=>forced dO fun hi=>.ok (a,⟨i,below lo dc,below lo iB,lo,hi⟩) ⟨h1,hi,mark,below mark dc++rd,below mark iB++wr⟩) s1)
   (m ⟨hh,lo,lo,[],[]⟩):=rfl
 rw[e,o3,h];obtain⟨h1,dO,CC,dc,iB⟩:=s1;show forced dO (fun hi=>R.ok (a,(⟨i,below nx dc,below nx iB,nx,hi⟩:bI)) (⟨h1,hi,mark,below mark dc++rd,below mark iB++wr⟩:AS))=_;rw[o3]
theorem Sx.alone{α:Type}(i:Nat){m:M α}(hm:Sx m):Sx<|alone i m:=by
 intro s v s2 fi h;obtain⟨a,s1,h1,rfl,rfl⟩:=FI h;obtain⟨dr,dw,d,x⟩:=hm ⟨s.h,s.nx,s.nx,[],[]⟩ a s1 ⟨Nat.le_refl _,fi.nx⟩ h1;have er:s1.rd=dr:=by have:=d.rd;simpa using this
 have ew:s1.wr=dw:=by have:=d.wr;simpa using this
 refine⟨below s.mark dr,below s.mark dw,⟨by show below s.mark s1.rd++s.rd=_;rw[er],by show below s.mark s1.wr++s.wr=_;rw[ew],d.nx,d.top,rfl,?_,?_,d.dk⟩,?_⟩
 ·intro k hk hn;exact d.same k (Nat.lt_of_lt_of_le hk fi.mark) fun e=>hn<|kB.2 ⟨e,hk⟩
 ·intro k hk;obtain⟨a,b⟩:=kB.1 hk;exact kB.2 ⟨d.sub k a,b⟩
 ·intro A m0 t ag hA;obtain⟨t1,e1,al⟩:=x A m0 ⟨t.h,t.nx,t.nx,[],[]⟩ ⟨ag.nx,ag.nx,Nat.le_trans ag.low fi.mark,ag.is⟩ fun k hk aS=>hA k (kB.2 ⟨hk,Nat.lt_of_lt_of_le aS ag.low⟩) aS;have QC:t1.rd=dr:=by have:=al.rd;simpa using this
  have QD:t1.wr=dw:=by have:=al.wr;simpa using this
  have hr:=Mn (i:=i) (s:=t) e1;rw[QC,QD, ←ag.nx, ←ag.mark, ←al.jr.nx] at hr;rw[er,ew];refine⟨_,hr,⟨rfl,rfl,ag.low,al.jr.is⟩,rfl,rfl,fun k hk hn=>al.same k hk fun e=>hn<|kB.2 ⟨e,Nat.lt_of_lt_of_le hk ag.low⟩,al.dk⟩
theorem Sx.di(P:Program){Sy:aD}(bd:∀t a,Sx<|Sy t a)(nt:Nat)(ops:Array Oper)(o:Oper)(t:Tr AV):Sx<|di P Sy nt ops o t:=by
 have hv:∀t op,Sx<|(bz P op).val Sy t:=fun t op=>Sx.w8 P bd t op;unfold Rn.di re;split<;>simp only[kj.val]
 ·unfold ll;refine Sx.bind (hv _ _) fun _=>Sx.lift _
 ·unfold lY;rename_i g _;refine Sx.ay fun _=>?_;cases jT ops g t
  ·exact Sx.lift _
  ·exact Sx.bind (hv _ _) fun _=>Sx.lift _
theorem Sx.fj(P:Program){Sy:aD}(bd:∀t a,Sx<|Sy t a)(nt:Nat)(ops:Array Oper):∀(l:List Oper) (t:Tr AV),Sx (fj P Sy nt ops l t)
 |[],t=>Sx.pure t
 |o::l,t=>Sx.bind (Sx.di P bd nt ops o t) fun t=>Sx.fj P bd nt ops l t
theorem Sx.gT(P:Program){Sy:aD}(bd:∀t a,Sx<|Sy t a)(nt:Nat)(ops:Array Oper):∀(l:List Oper) (i:Nat) (t:Tr AV),Sx (gT P Sy nt ops l i t)
 |[],_,_=>Sx.pure _
 |o::l,i,t=>Sx.bind (Sx.alone i<|Sx.di P bd nt ops o t) fun x=>Sx.bind (Sx.gT P bd nt ops l (i+1) x.1) fun _=>Sx.pure _
theorem Sx.nM(P:Program){Sy:aD}(bd:∀t a,Sx<|Sy t a)(nt:Nat)(ops:Array Oper)(t:Tr AV):Sx<|nM P Sy nt ops t:=Sx.bind (Sx.gT P bd nt ops _ _ _) fun _=>Sx.ay fun _=>Sx.pure _
theorem Sx.getLoop(l:Nat):Sx<|getLoop l:=by
 unfold Rn.getLoop
 repeat' (first
  |exact Sx.pure _|exact Sx.fail|exact Sx.lift _|exact Sx.eV _|exact Sx.aY _|exact Sx.aZ _ _|exact Sx.cN _
  |refine Sx.aA (fun _ _=>?_)|refine Sx.ay (fun _=>?_)|refine Sx.bind ?_ (fun _=>?_)
  |split)
theorem Sx.kD(l:Nat):Sx<|kD l:=by
 unfold Rn.kD
 repeat' (first
  |exact Sx.pure _|exact Sx.fail|exact Sx.lift _|exact Sx.eV _|exact Sx.aY _|exact Sx.aZ _ _|exact Sx.cN _|exact Sx.getLoop _
  |refine Sx.aA (fun _ _=>?_)|refine Sx.ay (fun _=>?_)|refine Sx.bind ?_ (fun _=>?_)
  |split)
theorem Sx.OX(P:Program){Sy:aD}(bd:∀t a,Sx<|Sy t a)(it:Item)(fn:FuncId)(t:Tr AV)(nt:Nat)(d:List Nat)(r:Option Nat)(k:List Item):Sx<|(zp P it).val Sy fn t nt d r k:=by
 cases it<;>simp only[zp]<;>(try simp only[kj.val])
 case code c=>
  unfold HX;split<;>simp only<;>(first|(unfold wj;exact Sx.pure _)|(unfold tL;exact Sx.pure _)|(unfold Iv;exact Sx.pure _)|(unfold CB;exact Sx.fail)|(unfold HW;exact Sx.aA fun _ _=>Sx.aA fun _ _=>Sx.pure _)|(unfold zn;split<;>exact Sx.pure _)|(unfold zo;split<;>exact Sx.pure _)|(unfold G1;exact Sx.bind (Sx.fj P bd _ _ _ _) fun _=>Sx.pure _)|(unfold Gn;exact Sx.bind (Sx.nM P bd _ _ _) fun _=>Sx.pure _)|skip);unfold za
  repeat' (first
   |exact Sx.pure _|exact Sx.fail|exact Sx.lift _|exact Sx.eV _|exact Sx.aY _|exact Sx.aZ _ _|exact Sx.cN _
   |exact Sx.ib bd _ _|exact bd _ _|exact Sx.getLoop _|exact Sx.kD _
   |refine Sx.aA (fun _ _=>?_)|refine Sx.ay (fun _=>?_)|refine Sx.bind ?_ (fun _=>?_)
   |split)
 case beginRound=>
  unfold zb
  repeat' (first
   |exact Sx.pure _|exact Sx.fail|exact Sx.lift _|exact Sx.eV _|exact Sx.aY _|exact Sx.aZ _ _|exact Sx.cN _|exact Sx.getLoop _
   |refine Sx.aA (fun _ _=>?_)|refine Sx.ay (fun _=>?_)|refine Sx.bind ?_ (fun _=>?_)
   |split)
 all_goals (first|exact Sx.pure _|exact Sx.fail)
theorem Sx.fx(P:Program){Sy:aD}(bd:∀t a,Sx<|Sy t a)(fr:AF):Sx<|fx P Sy fr:=by
 obtain⟨fn,t,nt,todo,d,r⟩:=fr;cases todo with
 |nil=>exact Sx.pure _
 |cons it k=>exact Sx.OX P bd it fn t nt d r k
theorem Sx.ig(P:Program){Sy:aD}(bd:∀t a,Sx<|Sy t a):∀(n:Nat) (fr:AF),Sx (ig P Sy n fr)
 |0,fr=>Sx.fx P bd fr
 |n+1,fr=>Sx.bind (Sx.ig P bd n fr) (fun x=>by
  cases x with
  |go fr=>exact Sx.ig P bd n fr
  |leave fr j=>exact Sx.pure _)
theorem Sx.iL(P:Program){Sy:aD}(bd:∀t a,Sx<|Sy t a):∀(n k:Nat) (fr:AF),Sx (iL P Sy n k fr)
 |0,_,_=>Sx.fail
 |n+1,k,fr=>Sx.bind (Sx.ig P bd k fr) (fun x=>by
  cases x with
  |go fr=>exact Sx.iL P bd n (k+1) fr
  |leave fr j=>exact Sx.pure _)
theorem Sx.qy(P:Program)(t:Tr AV)(r:ResultVar):Sx<|qy P t r:=by
 unfold Rn.qy
 repeat' (first
  |exact Sx.pure _|exact Sx.fail|exact Sx.lift _|exact Sx.eV _|exact Sx.aY _|exact Sx.aZ _ _|exact Sx.cN _|exact Sx.loadVar _ _ _ _
  |refine Sx.aA (fun _ _=>?_)|refine Sx.ay (fun _=>?_)|refine Sx.bind ?_ (fun _=>?_)
  |split)
theorem Sx.jP(P:Program)(t:Tr AV):∀l:List ResultVar,Sx (jP P t l)
 |[]=>Sx.pure _
 |r::l=>Sx.bind (Sx.qy P t r) fun _=>Sx.bind (Sx.jP P t l) fun _=>Sx.pure _
theorem Sx.hJ:∀l:List Nat,Sx (hJ l)
 |[]=>Sx.pure _
 |d::l=>Sx.bind (Sx.aY d) (fun o=>by
  split
  ·exact Sx.bind (Sx.aZ _ _) (fun _=>Sx.hJ l)
  ·exact Sx.fail)
theorem Sx.finish(P:Program)(rs:List ResultVar)(fr:AF)(j:Option Code):Sx<|finish P rs fr j:=by
 unfold Rn.finish
 repeat' (first
  |exact Sx.pure _|exact Sx.fail|exact Sx.lift _|exact Sx.eV _|exact Sx.aY _|exact Sx.aZ _ _|exact Sx.cN _|exact Sx.hJ _|exact Sx.jP _ _ _
  |refine Sx.aA (fun _ _=>?_)|refine Sx.ay (fun _=>?_)|refine Sx.bind ?_ (fun _=>?_)
  |split)
theorem Sx.tM(P:Program)(f n:Nat)(rs:List ResultVar)(body:Code){Sy:aD}(bd:∀t a,Sx<|Sy t a)(args:List AV):Sx<|tM P f n rs body Sy args:=
 Sx.ay (fun _=>Sx.bind (Sx.iL P bd _ _ _) (fun x=>by
  cases x with
  |go fr=>exact Sx.fail
  |leave fr j=>exact Sx.finish P rs fr j))
theorem Sx.o5(l:List AV):Sx<|o5 l:=by
 unfold Rn.o5
 repeat' (first
  |exact Sx.pure _|exact Sx.fail|exact Sx.lift _|exact Sx.eV _|exact Sx.aY _|exact Sx.aZ _ _|exact Sx.cN _
  |refine Sx.aA (fun _ _=>?_)|refine Sx.ay (fun _=>?_)|refine Sx.bind ?_ (fun _=>?_)
  |split)
theorem Sx.nN(l:List AV):Sx<|nN l:=by
 unfold Rn.nN
 repeat' (first
  |exact Sx.pure _|exact Sx.fail|exact Sx.lift _|exact Sx.eV _|exact Sx.aY _|exact Sx.aZ _ _|exact Sx.cN _|exact Sx.firstCells _ _ _
  |refine Sx.aA (fun _ _=>?_)|refine Sx.ay (fun _=>?_)|refine Sx.bind ?_ (fun _=>?_)
  |split)
theorem Sx.endRound(l:Nat)(j:Option Code):Sx<|endRound l j:=by
 unfold Rn.endRound
 repeat' (first
  |exact Sx.pure _|exact Sx.fail|exact Sx.lift _|exact Sx.eV _|exact Sx.aY _|exact Sx.aZ _ _|exact Sx.cN _|exact Sx.getLoop _
  |refine Sx.aA (fun _ _=>?_)|refine Sx.ay (fun _=>?_)|refine Sx.bind ?_ (fun _=>?_)
  |split)
theorem Sx.qA(P:Program){Sy:aD}(bd:∀t a,Sx<|Sy t a)(l:Nat)(args:List AV):Sx<|qA P Sy l args:=by
 unfold Rn.qA;refine Sx.bind (Sx.getLoop _) fun o=>?_;split
 ·exact Sx.ay fun _=>Sx.bind (Sx.iL P bd _ _ _) (fun x=>by
   cases x with
   |go fr=>exact Sx.fail
   |leave fr j=>exact Sx.endRound l j)
 ·exact Sx.fail
end Go.Rn
namespace Go.Rn
def zd{β:Type}(A:Nat->Prop)(m0:Nat)(s t:AS)(x y:β×AS):Prop:=x.1=y.1/\∃dr dw,gw s x.2 dr dw/\l6 A m0 x.2 t y.2 dr dw
def fu{β:Type}(A:Nat->Prop)(m0:Nat)(s t:AS):List (β×AS)->List (β×AS)->Prop
 |[],l=>l=[]
 |x::xs,l=>∃y ys,l=y::ys/\zd A m0 s t x y/\fu A m0 s t xs ys
theorem fu.append{β:Type}{A:Nat->Prop}{m0:Nat}{s t:AS}:∀{a b c d:List<|β×AS},fu A m0 s t a b->fu A m0 s t c d->fu A m0 s t (a++c) (b++d)
 |[],_,_,_,h,k=>by simp only[fu] at h;subst h;simpa using k
 |x::xs,_,_,_,h,k=>by obtain⟨y,ys,rfl,f,r⟩:=h;exact⟨y,_,rfl,f,fu.append r k⟩
def vT{β:Type}(A:Nat->Prop)(m0:Nat)(s:AS)(l:List<|β×AS):Prop:=∀x∈l,∀dr dw,gw s x.2 dr dw->∀k∈dr,k<m0->A k
def mQ{β:Type}(m:AS->Option (List<|β×AS)):Prop:=∀s outs,aO s->m s=some outs->outs≠[]/\(∀x∈outs,∃dr dw,gw s x.2 dr dw)/\∀A m0 t,vS A m0 s t->vT A m0 s outs->∃js,m t=some js/\fu A m0 s t outs js
theorem gw.trans{s s1 s2:AS}{dr dw kl g9:List Nat}(d:gw s s1 dr dw)(d':gw s1 s2 kl g9):gw s s2 (kl++dr)<|g9++dw:=by
 refine⟨by rw[d'.rd,d.rd,List.append_assoc],by rw[d'.wr,d.wr,List.append_assoc],Nat.le_trans d.nx d'.nx,d'.top,d'.mark.trans d.mark,?_,?_,?_⟩
 ·intro k hk hn;have mj:k ∉ g9:=fun e=>hn<|List.mem_append.2<|.inl e;have iZ:k ∉ dw:=fun e=>hn<|List.mem_append.2<|.inr e;exact(d'.same k (by rw[d.mark];exact hk) mj).trans<|d.same k hk iZ
 ·intro k hk;rcases List.mem_append.1 hk with e|e
  ·exact List.mem_append.2<|.inl<|d'.sub k e
  ·exact List.mem_append.2<|.inr<|d.sub k e
 ·intro k hk ht;exact(d'.dk k hk ht).trans<|d.dk k (Nat.le_trans d'.nx hk) ht
theorem l6.trans{A:Nat->Prop}{m0:Nat}{s1 s2 t t1 t2:AS}{dr dw kl g9:List Nat}(hx:s1.nx<=s2.nx)(al:l6 A m0 s1 t t1 dr dw)(km:l6 A m0 s2 t1 t2 kl g9):l6 A m0 s2 t t2 (kl++dr)<|g9++dw:=by
 refine⟨km.jr,by rw[km.rd,al.rd,List.append_assoc],by rw[km.wr,al.wr,List.append_assoc],?_,?_⟩
 ·intro k hk hn;have mj:k ∉ g9:=fun e=>hn<|List.mem_append.2<|.inl e;have iZ:k ∉ dw:=fun e=>hn<|List.mem_append.2<|.inr e;exact(km.same k hk mj).trans<|al.same k hk iZ
 ·intro k hk ht;exact(km.dk k hk ht).trans<|al.dk k (Nat.le_trans hx hk) ht
theorem zd.yS{β:Type}{A:Nat->Prop}{m0:Nat}{s s1 t t1:AS}{dr dw:List Nat}{x y:β×AS}(d:gw s s1 dr dw)(al:l6 A m0 s1 t t1 dr dw)(h:zd A m0 s1 t1 x y):zd A m0 s t x y:=by obtain⟨e,kl,g9,d',km⟩:=h;exact⟨e,_,_,d.trans d',al.trans d'.nx km⟩
theorem fu.yS{β:Type}{A:Nat->Prop}{m0:Nat}{s s1 t t1:AS}{dr dw:List Nat}(d:gw s s1 dr dw)(al:l6 A m0 s1 t t1 dr dw):
 ∀{a b:List<|β×AS},fu A m0 s1 t1 a b->fu A m0 s t a b
 |[],_,h=>h
 |x::xs,_,h=>by obtain⟨y,ys,rfl,f,r⟩:=h;exact⟨y,ys,rfl,f.yS d al,fu.yS d al r⟩
def jo{α β:Type}(m:M α)(F:α->AS->Option (List<|β×AS)):AS->Option (List<|β×AS):=fun s=>
 match m s with
 | .ok a s1=>F a s1
 | .bad=>none
theorem yr{α β:Type}{m:M α}{F:α->AS->Option (List<|β×AS)}(hm:Sx m)(hF:∀a,mQ<|F a):
 mQ (jo m F):=by
 intro s outs fi h;unfold jo at h ⊢;cases e:m s with
 |bad=>simp only[e] at h;cases h
 |ok a s1=>
  simp only[e] at h;obtain⟨dr,dw,d,x⟩:=hm s a s1 fi e;obtain⟨ne,g1,g2⟩:=hF a s1 outs (d.bg fi) h;refine⟨ne,fun y hy=>?_,fun A m0 t ag hA=>?_⟩
  ·obtain⟨kl,g9,d'⟩:=g1 y hy;exact⟨_,_,d.trans d'⟩
  ·cases outs with
   |nil=>exact absurd rfl ne
   |cons y ys=>obtain⟨np,pO,d1⟩:=g1 y List.mem_cons_self;have QE:∀k∈dr,k<m0->A k:=fun k hk aS=>hA y List.mem_cons_self _ _ (d.trans d1) k (List.mem_append.2<|.inr hk) aS;obtain⟨t1,e1,al⟩:=x A m0 t ag QE;obtain⟨js,e2,fl⟩:=g2 A m0 t1 al.jr fun z hz kl g9 d' k hk aS=>hA z hz _ _ (d.trans d') k (List.mem_append.2<|.inl hk) aS;exact⟨js,by simp only[e1];exact e2,fl.yS d al⟩
theorem Mo{β:Type}(b:β):mQ fun s=>some [(b,s)]:=by
 intro s outs fi h;injection h with h;subst h
 have dd:gw s s [] []:=⟨rfl,rfl,Nat.le_refl _,fi.nx,rfl,fun _ _ _=>rfl,fun _ h=>h,fun _ _ _=>rfl⟩;refine⟨by simp,fun x hx=>?_,fun A m0 t ag _=>⟨[(b,t)],rfl,(b,t),[],rfl,⟨rfl,[],[],dd,ag,rfl,rfl,fun _ _ _=>rfl,fun _ _ _=>rfl⟩,rfl⟩⟩;simp only[List.mem_singleton] at hx;subst hx;exact⟨[],[],dd⟩
theorem FJ{β:Type}:mQ fun _=>(none:Option<|List<|β×AS):=by intro s outs _ h;cases h
theorem EB{α β:Type}{F:α->AS->Option (List<|β×AS)}:∀(l:List α),l≠[]->(∀a∈l,mQ<|F a)->mQ (fun s=>Rn.collect (fun a=>F a s) l)
 |[],h,_=>absurd rfl h
 |x::l,_,hF=>by
  intro s outs fi h;simp only[Rn.collect] at h;cases e:F x s with
  |none=>rw[e] at h;cases h
  |some a=>
   rw[e] at h;obtain⟨ne,g1,g2⟩:=hF x List.mem_cons_self s a fi e;cases l with
   |nil=>
    simp only[Rn.collect,List.append_nil] at h;injection h with h;subst h
    refine⟨ne,g1,fun A m0 t ag hA=>?_⟩;obtain⟨o',e',fl⟩:=g2 A m0 t ag hA;exact⟨o',by simp only[Rn.collect,e',List.append_nil],fl⟩
   |cons z l=>
    cases e2:Rn.collect (fun a=>F a s) (z::l) with
    |none=>rw[e2] at h;cases h
    |some b=>
     rw[e2] at h;injection h with h;subst h
     obtain⟨ne',oC,DA⟩:=EB (F:=F) (z::l) (by simp) (fun a ha=>hF a<|List.mem_cons_of_mem _ ha) s b fi e2;refine⟨by simp[ne],fun y hy=>?_,fun A m0 t ag hA=>?_⟩
     ·rcases List.mem_append.1 hy with hy|hy
      ·exact g1 y hy
      ·exact oC y hy
     ·obtain⟨o1,DB,f1⟩:=g2 A m0 t ag fun y hy=>hA y<|List.mem_append.2<|.inl hy;obtain⟨o2,ja,f2⟩:=DA A m0 t ag fun y hy=>hA y<|List.mem_append.2<|.inr hy;refine⟨o1++o2,?_,f1.append f2⟩;have PG:Rn.collect (fun a=>F a t) (z::l)=some o2:=ja;show Rn.collect (fun a=>F a t) (x::z::l)=_;rw[Rn.collect,DB];simp only[PG]
theorem Mp{α:Type}(x:α)(l:List α):n7 (x::l)≠[]:=by simp[n7]
theorem Sx.mM(fr:AF)(it:Operand):Sx<|mM fr it:=by
 unfold Rn.mM
 repeat' (first
  |exact Sx.pure _|exact Sx.fail|exact Sx.lift _|exact Sx.aY _
  |refine Sx.bind ?_ (fun _=>?_)
  |split)
theorem Sx.lT(P:Program){Sy:aD}(bd:∀t a,Sx<|Sy t a)(fr:AF)(n:Nat)(ob:U)(o:Oper)(ops:Array Oper)(rest:List Oper)(k:List Item)(v:AV):
 Sx (lT P Sy fr n ob o ops rest k v):=by
 unfold Rn.lT
 repeat' (first
  |exact Sx.pure _|exact Sx.lift _|exact Sx.aZ _ _|exact Sx.fj P bd _ _ _ _
  |refine Sx.bind ?_ fun _=>?_)
theorem Sx.lK(P:Program){Sy:aD}(bd:∀t a,Sx<|Sy t a)(fr:AF)(n m:Nat)(es:List<|AV×AV)(ex:Bool)(o:Oper)(ops:Array Oper)(rest:List Oper)(k:List Item):
 Sx (lK P Sy fr n m es ex o ops rest k):=by
 unfold Rn.lK
 repeat' (first
  |exact Sx.pure _|exact Sx.lift _|exact Sx.aZ _ _|exact Sx.fj P bd _ _ _ _
  |refine Sx.bind ?_ fun _=>?_)
noncomputable section
def PH(P:Program)(Sy:aD)(f:Nat)(x:bK):AS->Option (List<|(AF×Option Code)×AS):=
 match x with
 | .go fr=>hX P Sy f fr
 | .leave fr j=>fun s=>some [((fr,j),s)]
def CD(P:Program)(Sy:aD)(f:Nat)(fr:AF)(n m:Nat)(es:List<|AV×AV)(exact:Bool)(o:Oper)(ops:Array Oper)(rest:List Oper)(k:List Item)(x:(AV×AV)×List (AV×AV)):AS->Option (List<|(AF×Option Code)×AS):=jo (lT P Sy fr n (.iter m es exact x.2<|some x.1) o ops rest k<|.tuple [.bool true,x.1.1,x.1.2])<|hX P Sy f
def vU(P:Program)(Sy:aD)(f:Nat)(fr:AF)(o:Oper)(ops:Array Oper)(rest:List Oper)(k:List Item)(x:Nat×U):AS->Option (List<|(AF×Option Code)×AS):=
 match x with
 |(n,.iter m es exact left _)=>match left with
  |[]=>jo (lK P Sy fr n m es exact o ops rest k)<|hX P Sy f
  |y::ys=>fun s=>collect (fun x=>CD P Sy f fr n m es exact o ops rest k x s)<|n7<|y::ys
 |_=>fun _=>none
end
theorem EO{P:Program}{Sy:aD}{f:Nat}{fr:AF}(e:qz fr=none):
 hX P Sy (f+1) fr=jo (fx P Sy fr) (PH P Sy f):=by
 funext s;simp only[hX,e,jo];cases fx P Sy fr s with
 |bad=>rfl
 |ok x s1=>cases x<;>rfl
theorem EP{P:Program}{Sy:aD}{f:Nat}{fr:AF}{it:Operand}{o:Oper}{ops:Array Oper}{rest:List Oper}{k:List Item}(e:qz fr=some (it,o,ops,rest,k)):
 hX P Sy (f+1) fr=jo (mM fr it) (vU P Sy f fr o ops rest k):=by
 funext s;simp only[hX,e,jo];cases mM fr it s with
 |bad=>rfl
 |ok x s1=>
  obtain⟨n,ob⟩:=x;cases ob with
  |iter m es ex left cur=>
   cases left with
   |nil=>simp only[vU,jo];cases lK P Sy fr n m es ex o ops rest k s1<;>rfl
   |cons y ys=>simp only[vU];congr 1;funext x;simp only[CD,jo];cases lT P Sy fr n (.iter m es ex x.2<|some x.1) o ops rest k (.tuple [.bool true,x.1.1,x.1.2]) s1<;>rfl
  |_=>rfl
theorem mH(P:Program){Sy:aD}(bd:∀t a,Sx<|Sy t a):∀(f:Nat) (fr:AF),mQ (hX P Sy f fr)
 |0,fr=>FJ
 |f+1,fr=>by
  cases e:qz fr with
  |none=>
   rw[EO e];refine yr (Sx.fx P bd fr) fun x=>?_;cases x with
   |go fr=>exact mH P bd f fr
   |leave fr j=>exact Mo (fr,j)
  |some q=>
   obtain⟨it,o,ops,rest,k⟩:=q;rw[EP e];refine yr (Sx.mM fr it) fun x=>?_;obtain⟨n,ob⟩:=x;cases ob with
   |iter m es ex left cur=>
    cases left with
    |nil=>exact yr (Sx.lK P bd _ _ _ _ _ _ _ _ _) fun fr=>mH P bd f fr
    |cons y ys=>exact EB _ (Mp y ys) fun x _=>yr (Sx.lT P bd _ _ _ _ _ _ _ _) fun fr=>mH P bd f fr
   |_=>exact FJ
theorem Er(P:Program)(rs:List ResultVar){m:AS->Option (List<|(AF×Option Code)×AS)}(hm:mQ m):
 mQ (fun s=>match m s with|some l=>kA P rs l|none=>none):=by
 have key:∀(s:AS) (l:List<|(AF×Option Code)×AS) (outs:List<|AV×AS),aO s->(∀x∈l,∃dr dw,gw s x.2 dr dw)->kA P rs l=some outs->
  outs.length=l.length/\(∀x∈outs,∃dr dw,gw s x.2 dr dw)/\
  (∀A m0,vT A m0 s outs->vT A m0 s l)/\
  ∀A m0 t l',vS A m0 s t->fu A m0 s t l l'->vT A m0 s outs->∃js,kA P rs l'=some js/\fu A m0 s t outs js:=by
  intro s l;induction l with
  |nil=>
   intro outs fi _ h;simp only[kA] at h;injection h with h;subst h
   refine⟨rfl,fun x hx=>(by cases hx),fun A m0 _ x hx=>(by cases hx),fun A m0 t l' _ fl _=>?_⟩;simp only[fu] at fl;subst fl;exact⟨[],rfl,rfl⟩
  |cons x l ih=>
   obtain⟨⟨fr,j⟩,sx⟩:=x;intro outs fi hd h;simp only[kA] at h;obtain⟨dr,dw,d⟩:=hd _ List.mem_cons_self;cases e:finish P rs fr j sx with
   |bad=>rw[e] at h;cases h
   |ok v s1=>
    rw[e] at h;cases e2:kA P rs l with
    |none=>simp only[e2] at h;cases h
    |some r=>
     simp only[e2] at h;injection h with h;subst h
     obtain⟨hl,i1,i2,i3⟩:=ih r fi (fun x hx=>hd x<|List.mem_cons_of_mem _ hx) e2;obtain⟨kl,g9,d',x'⟩:=Sx.finish P rs fr j sx v s1 (d.bg fi) e;refine⟨by simp[hl],fun y hy=>?_,fun A m0 hN y hy=>?_,fun A m0 t l' ag fl hN=>?_⟩
     ·rcases List.mem_cons.1 hy with rfl|hy
      ·exact⟨_,_,d.trans d'⟩
      ·exact i1 y hy
     ·rcases List.mem_cons.1 hy with rfl|hy
      ·intro np pO d1 k hk aS;exact hN (v,s1) List.mem_cons_self _ _ (d1.trans d') k (List.mem_append.2<|.inr hk) aS
      ·exact i2 A m0 (fun z hz=>hN z<|List.mem_cons_of_mem _ hz) y hy
     ·obtain⟨y,ys,rfl,⟨ey,np,pO,d1,rN⟩,ko⟩:=fl;obtain⟨⟨fC,j2⟩,ty⟩:=y;simp only at ey;cases ey;obtain⟨js,e3,QF⟩:=i3 A m0 t ys ag ko fun z hz=>hN z<|List.mem_cons_of_mem _ hz;obtain⟨t1,e4,QG⟩:=x' A m0 ty rN.jr fun k hk aS=>hN (v,s1) List.mem_cons_self _ _ (d1.trans d') k (List.mem_append.2<|.inl hk) aS;refine⟨(v,t1)::js,?_,(v,t1),js,rfl,⟨rfl,_,_,d1.trans d',rN.trans d'.nx QG⟩,QF⟩;simp only[kA];have DC:finish P rs fr j ty= .ok v t1:=e4;rw[DC,e3]
 intro s outs fi h;cases e:m s with
 |none=>simp only[e] at h;cases h
 |some l=>simp only[e] at h;obtain⟨ne,g1,g2⟩:=hm s l fi e;obtain⟨hl,i1,i2,i3⟩:=key s l outs fi g1 h;refine⟨fun h0=>ne (by rw[h0] at hl;exact List.length_eq_zero_iff.1 hl.symm),i1,fun A m0 t ag hN=>?_⟩;obtain⟨l',e',fl⟩:=g2 A m0 t ag<|i2 A m0 hN;obtain⟨js,e2,QH⟩:=i3 A m0 t l' ag fl hN;exact⟨js,by simp only[e'];exact e2,QH⟩
end Go.Rn
namespace Go.Rn
theorem Fg:∀(l:List Nat) (s:AS) (u:Unit) (s1:AS),jj l s= .ok u s1->∃dr,s1.rd=dr++s.rd/\s1.mark=s.mark/\∀k∈l,k<s.mark->k∈dr
 |[],s,u,s1,h=>by have h':M.pure () s= .ok u s1:=h;obtain⟨_,rfl⟩:=aM h';exact⟨[],rfl,rfl,fun k hk=>by cases hk⟩
 |n::l,s,u,s1,h=>by
  have h':(aY n).bind (fun _=>jj l) s= .ok u s1:=h;obtain⟨o,s2,h1,h2⟩:=M.aI h';obtain⟨_,_,rfl⟩:=BQ h1;obtain⟨dr,e1,e2,e3⟩:=Fg l _ _ _ h2;by_cases q:n<s.mark
  ·rw[if_pos q] at e1 e2 e3;refine⟨dr++[n],by rw[e1];simp,e2,fun k hk aS=>?_⟩;rcases List.mem_cons.1 hk with rfl|hk
   ·simp
   ·exact List.mem_append.2<|.inl<|e3 k hk aS
  ·rw[if_neg q] at e1 e2 e3;refine⟨dr,e1,e2,fun k hk aS=>?_⟩;rcases List.mem_cons.1 hk with rfl|hk
   ·exact absurd aS q
   ·exact e3 k hk aS
theorem Sx.jj:∀l:List Nat,Sx (jj l)
 |[]=>Sx.pure _
 |n::l=>Sx.bind (Sx.aY n) fun _=>Sx.jj l
theorem Sx.kP:∀l:List<|Nat×List (AV×AV),Sx (kP l)
 |[]=>Sx.pure _
 |(_,_)::l=>Sx.bind (Sx.jW _) fun _=>Sx.bind (Sx.aZ _ _) fun _=>Sx.kP l
theorem Sx.iM:∀k:Nat,Sx (iM k)
 |0=>Sx.pure _
 |k+1=>Sx.bind (Sx.cN _) fun _=>Sx.bind (Sx.aZ _ _) fun _=>Sx.iM k
theorem Sx.oi(lo:Nat)(r:oB):Sx<|oi lo r:=by
 cases r with
 |none=>exact Sx.pure _
 |nil=>exact Sx.pure _
 |row n c len e=>exact Sx.bind (Sx.iM _) fun _=>Sx.bind (Sx.newRow c) fun _=>Sx.ay fun _=>Sx.pure _
theorem Sx.vO(p:wk):Sx<|vO p:=Sx.bind (Sx.jj _) fun _=>Sx.bind (Sx.kP _) fun _=>Sx.bind (Sx.oi _ _) fun _=>Sx.bind (Sx.iM _) fun _=>Sx.pure _
theorem tb{n:Nat}:∀{l:List Nat},nb n l=true↔n∈l
 |[]=>by simp[nb]
 |x::l=>by
  simp only[nb];cases h:Nat.beq x n with
  |true=>rw[beq_eq] at h;subst h;simp
  |false=>
   have:¬x=n:=by rw[←beq_eq,h];simp
   simp only[tb (l:=l),List.mem_cons];constructor
   ·exact .inr
   ·rintro (e|e)
    ·exact absurd e.symm this
    ·exact e
theorem J6{k n:Nat}{l:List Nat}:k∈BP n l↔k=n\/k∈l:=by
 unfold BP;cases h:nb n l with
 |true=>
  have:=tb.1 h;constructor
  ·exact .inr
  ·rintro (rfl|e)
   ·exact this
   ·exact e
 |false=>exact List.mem_cons
theorem ER{k:Nat}:∀{l:List Nat},k∈jU l↔k∈l
 |[]=>by simp[jU]
 |x::l=>by rw[jU,J6,ER (l:=l),List.mem_cons]
def CE(ns:List Nat)(s t:AS):Prop:=∀n∈ns,s.h.get n=t.h.get n
theorem G3{s t:AS}{n:Nat}(h:s.h.get n=t.h.get n):og s n=og t n:=by unfold og;rw[h]
theorem EC{s t:AS}:∀{ns:List Nat},CE ns s t->entriesOf s ns=entriesOf t ns
 |[],_=>rfl
 |n::l,h=>by simp only[entriesOf,G3<|h n List.mem_cons_self,EC (ns:=l) fun m hm=>h m<|List.mem_cons_of_mem _ hm]
theorem Av{s:AS}:∀{ns:List Nat} {es:List<|Nat×List (AV×AV)},entriesOf s ns=some es->es.map (·.1)=ns
 |[],es,h=>by simp only[entriesOf] at h;injection h with h;subst h;rfl
 |n::l,es,h=>by
  simp only[entriesOf] at h;cases e:og s n with
  |none=>rw[e] at h;cases h
  |some x=>
   simp only[e] at h;cases e2:entriesOf s l with
   |none=>simp only[e2] at h;cases h
   |some r=>
    simp only[e2] at h;injection h with h;subst h
    simp[Av e2]
theorem Gp{s t:AS}:∀{es:List<|Nat×List (AV×AV)},CE (es.map (·.1)) s t->pw s es=pw t es
 |[],_=>rfl
 |(n,x)::l,h=>by simp only[pw,G3 (h n<|by simp),Gp (es:=l) fun m hm=>h m (by simp only[List.map_cons,List.mem_cons];exact .inr hm)]
theorem Mq{lo:Nat}{s t:AS}(hn:s.nx=t.nx)(h:∀k,lo<=k->k<s.nx->s.h.get k=t.h.get k)(v:AV):ij lo s v=ij lo t v:=by
 cases v with
 |slice a len cap=>
  cases a with
  |none=>
   cases cap with
   |known c=>cases len<;>cases c<;>rfl
   |bA lo e=>cases len<;>rfl
   |lost=>cases len<;>rfl
  |some a=>
   obtain⟨n,o⟩:=a;cases o with
   |succ o=>cases cap<;>rfl
   |zero=>
    cases cap with
    |known c=>rfl
    |lost=>rfl
    |bA c e=>
     by_cases q:lo<=n/\n<s.nx
     ·simp only[ij,h n q.1 q.2,hn]
     ·have q1:(Nat.ble lo n&&Nat.blt n s.nx)=false:=by
       cases hb:(Nat.ble lo n&&Nat.blt n s.nx) with
       |false=>rfl
       |true=>have:=Bool.and_eq_true_iff.1 hb;rw[Nat.ble_eq,blt_eq] at this;exact absurd this q
      have HY:∀u:AS,(Nat.ble lo n&&Nat.blt n u.nx)=false->ij lo u (.slice (some (n,0)) len<|.bA c e)=none:=by
       intro u hu;simp only[ij,hu,Bool.false_and];split
       ·split<;>rfl
       ·rfl
      rw[HY s q1,HY t (by rw[←hn];exact q1)]
 |tuple vs=>cases vs<;>rfl
 |_=>rfl
theorem FK{x:AV×AS}{k:Nat}:∀{l:List<|AV×AS},x∈l->k∈x.2.rd->k∈rf l
 |[],h,_=>by cases h
 |(_,_)::b,h,hk=>by
  rcases List.mem_cons.1 h with rfl|hx
  ·exact List.mem_append.2<|.inl hk
  ·exact List.mem_append.2<|.inr<|FK hx hk
theorem Sx.px(P:Program){Sy:aD}(bd:∀t a,Sx<|Sy t a)(f n:Nat)(rs:List ResultVar)(body:Code)(args:List AV):Sx<|px P Sy f n rs body args:=by
 intro s v s2 fi h;unfold Rn.px at h;cases e0:Nat.ble (max n args.length) top with
 |false=>simp only[e0] at h;cases h
 |true=>
  simp only[e0] at h;cases e1:vw P Sy f n rs body args ⟨s.h,s.nx,s.nx,[],[]⟩ with
  |none=>simp only[e1] at h;cases h
  |some outs=>
   simp only[e1] at h;cases e2:nW s.nx outs with
   |none=>simp only[e2] at h;cases h
   |some p=>
    simp only[e2] at h;obtain⟨dr,dw,d,x⟩:=Sx.vO p s v s2 fi h;refine⟨dr,dw,d,fun A m0 t ag hA=>?_⟩;have OY:∀k∈p.note,k<m0->A k:=by
     intro k hk aS;refine hA k ?_ aS;obtain⟨u,s3,h1,h2⟩:=M.aI (show((Rn.jj p.note).bind fun _=>(Rn.kP p.es).bind fun _=>(Rn.oi p.lo p.ret).bind fun v=>(Rn.iM p.skip).bind fun _=>M.pure<|vu p.rest v) s= .ok v s2 from h);obtain⟨np,q1,q2,q3⟩:=Fg _ _ _ _ h1;obtain⟨kl,g9,d',_⟩:=Sx.jj p.note s u s3 fi h1;obtain⟨uy,xb,d2,_⟩:=Sx.bind (Sx.kP p.es) (fun _=>Sx.bind (Sx.oi p.lo p.ret) fun v=>Sx.bind (Sx.iM p.skip) fun _=>Sx.pure<|vu p.rest v) s3 v s2 (d'.bg fi) h2;have:dr=uy++np:=by have a:=d.rd;rw[d2.rd,q1, ←List.append_assoc] at a;exact(List.append_cancel_right a).symm
     rw[this];exact List.mem_append.2<|.inr<|q3 k hk<|Nat.lt_of_lt_of_le aS ag.low
    have hL:mQ<|vw P Sy f n rs body args:=Er P rs<|mH P bd _ _;obtain⟨ne,g1,g2⟩:=hL ⟨s.h,s.nx,s.nx,[],[]⟩ outs ⟨Nat.le_refl _,fi.nx⟩ e1;cases outs with
    |nil=>exact absurd rfl ne
    |cons y l=>
     obtain⟨v1,s1⟩:=y;have ja:=e2;simp only[nW] at ja;cases e3:entriesOf s1 (jU<|below s.nx s1.wr) with
     |none=>simp only[e3] at ja;cases ja
     |some es=>
      cases e4:ij s.nx s1 (kL v1) with
      |none=>simp only[e3,e4] at ja;cases ja
      |some r=>
       simp only[e3,e4] at ja;cases e5:fits s.nx (jU<|below s.nx s1.wr) es r (ph v1) ((v1,s1)::l)&&sW es with
       |false=>simp only[e5] at ja;cases ja
       |true=>
        simp only[e5] at ja;injection ja with ja
        have QI:∀x∈((v1,s1)::l),∀k∈x.2.rd,k∈rf ((v1,s1)::l):=fun x hx k hk=>FK hx hk;have hN:vT A m0 ⟨s.h,s.nx,s.nx,[],[]⟩<|(v1,s1)::l:=by intro x hx kl g9 d' k hk aS;refine OY k ?_ aS;rw[←ja];refine kB.2 ⟨QI x hx k (by rw[d'.rd];simpa using hk),Nat.lt_of_lt_of_le aS<|Nat.le_trans ag.low fi.mark⟩
        obtain⟨js,e6,fl⟩:=g2 A m0 ⟨t.h,t.nx,t.nx,[],[]⟩ ⟨ag.nx,ag.nx,Nat.le_trans ag.low fi.mark,ag.is⟩ hN;have hp:nW t.nx js=some p:=by
         rw[←ag.nx, ←ja];obtain⟨y',l',rfl,⟨ey,np,pO,d1,rN⟩,QJ⟩:=fl;obtain⟨v2,t1⟩:=y';simp only at ey;subst ey;have QK:t1.wr=s1.wr:=by have a:=rN.wr;have b:=d1.wr;simp only[List.append_nil] at a b;rw[a,b]
         have ga:∀m∈jU (below s.nx s1.wr),(A m\/m0<=m)/\m<s.nx:=by
          intro m hm;obtain⟨a,b⟩:=kB.1<|ER.1 hm;refine⟨?_,b⟩;by_cases q:m<m0
          ·refine .inl<|hN _ List.mem_cons_self np pO d1 m (d1.sub m ?_) q;have:=d1.wr;simp only[List.append_nil] at this;rw[←this];exact a
          ·exact .inr (by omega)
         have one:∀(x y:AS) (dr dw:List Nat),gw ⟨s.h,s.nx,s.nx,[],[]⟩ x dr dw->l6 A m0 x ⟨t.h,t.nx,t.nx,[],[]⟩ y dr dw->CE (jU<|below s.nx s1.wr) x y:=by intro x y dr dw d' al m hm;obtain⟨a,b⟩:=ga m hm;exact al.jr.is m (Nat.lt_of_lt_of_le b d'.nx) a
         have ret:∀(x y:AS) (dr dw:List Nat) (v:AV),gw ⟨s.h,s.nx,s.nx,[],[]⟩ x dr dw->l6 A m0 x ⟨t.h,t.nx,t.nx,[],[]⟩ y dr dw->ij s.nx x v=ij s.nx y v:=by intro x y dr dw v d' al;exact Mq al.jr.nx (fun k hk aS=>al.jr.is k aS<|.inr<|Nat.le_trans (Nat.le_trans ag.low fi.mark) hk) v
         have z7:entriesOf t1 (jU<|below s.nx s1.wr)=some es:=by rw[←EC (one s1 t1 np pO d1 rN)];exact e3
         have DC:ij s.nx t1 (kL v1)=some r:=by rw[←ret s1 t1 np pO (kL v1) d1 rN];exact e4
         have CF:∀(a b:List<|AV×AS),fu A m0 ⟨s.h,s.nx,s.nx,[],[]⟩ ⟨t.h,t.nx,t.nx,[],[]⟩ a b->fits s.nx (jU<|below s.nx s1.wr) es r (ph v1) a=fits s.nx (jU<|below s.nx s1.wr) es r (ph v1) b:=by
          intro a;induction a with
          |nil=>intro b hb;simp only[fu] at hb;subst hb;rfl
          |cons x xs ih=>
           intro b hb;obtain⟨y,ys,rfl,⟨z8,uy,xb,d2,rO⟩,r2⟩:=hb;obtain⟨x1,x2⟩:=x;obtain⟨y1,y2⟩:=y;simp only at z8;subst z8;have w2:y2.wr=x2.wr:=by have a:=rO.wr;have b:=d2.wr;simp only[List.append_nil] at a b;rw[a,b]
           have n2:=Av e3;simp only[fits,w2,Gp (es:=es) (s:=x2) (t:=y2) (by rw[n2];exact one x2 y2 uy xb d2 rO),ret x2 y2 uy xb (kL x1) d2 rO,ih ys r2]
         have PI:∀(a b:List<|AV×AS),fu A m0 ⟨s.h,s.nx,s.nx,[],[]⟩ ⟨t.h,t.nx,t.nx,[],[]⟩ a b->rf a=rf b:=by
          intro a;induction a with
          |nil=>intro b hb;simp only[fu] at hb;subst hb;rfl
          |cons x xs ih=>
           intro b hb;obtain⟨y,ys,rfl,⟨z8,uy,xb,d2,rO⟩,r2⟩:=hb;obtain⟨x1,x2⟩:=x;obtain⟨y1,y2⟩:=y;have w2:y2.rd=x2.rd:=by have a:=rO.rd;have b:=d2.rd;simp only[List.append_nil] at a b;rw[a,b]
           simp only[rf,ih ys r2];rw[w2]
         have PJ:∀(a b:List<|AV×AS),fu A m0 ⟨s.h,s.nx,s.nx,[],[]⟩ ⟨t.h,t.nx,t.nx,[],[]⟩ a b->oh a=oh b:=by
          intro a;induction a with
          |nil=>intro b hb;simp only[fu] at hb;subst hb;rfl
          |cons x xs ih=>intro b hb;obtain⟨y,ys,rfl,⟨z8,uy,xb,d2,rO⟩,r2⟩:=hb;obtain⟨x1,x2⟩:=x;obtain⟨y1,y2⟩:=y;have w2:x2.nx=y2.nx:=rO.jr.nx;simp only[oh,ih ys r2,w2]
         have whole:fu A m0 ⟨s.h,s.nx,s.nx,[],[]⟩ ⟨t.h,t.nx,t.nx,[],[]⟩ ((v1,s1)::l)<|(v1,t1)::l':=⟨(v1,t1),l',rfl,⟨rfl,np,pO,d1,rN⟩,QJ⟩;simp only[nW,QK,z7,DC];rw[←CF _ _ whole,e5, ←PI _ _ whole, ←PJ _ _ whole]
        obtain⟨t1,e7,al⟩:=x A m0 t ag hA;refine⟨t1,?_,al⟩;unfold Rn.px;simp only[e0,e6,hp];exact e7
theorem uZ(P:Program)(cx:FuncId->Nat):∀(n:Nat) (t:w7) (args:List AV),Sx (nf P cx n t args)
 |0,_,_=>Sx.fail
 |n+1,.fn f,args=>by
  have bd:∀t a,Sx<|nf P cx n t a:=fun t a=>uZ P cx n t a;show Sx<|(pN P cx f).val (nf P cx n) args;unfold pN;split
  ·exact Sx.o5 _
  ·exact Sx.nN _
  ·split
   ·exact Sx.fail
   ·split
    ·exact Sx.fail
    ·split
     ·exact Sx.fail
     ·split
      ·exact Sx.px P bd _ _ _ _ _
      ·exact Sx.tM P _ _ _ _ bd _
 |n+1,.round l,args=>Sx.qA P (fun t a=>uZ P cx n t a) l args
 |_+1,.row _ _ _,_=>Sx.fail
end Go.Rn
namespace Go.Rn
open Go.RowKit
def dM(ρ:ah)(n:Nat)(x:Nat×Nat):ah:=fun k=>if k=n then some x else ρ k
theorem kJ{ρ:ah}{n:Nat}{x:Nat×Nat}(h:ρ n=none):ρ.le<|dM ρ n x:=by
 intro k y e;unfold dM;by_cases q:k=n
 ·subst q;rw[h] at e;cases e
 ·rw[if_neg q];exact e
theorem eQ(ρ:ah)(n:Nat)(x:Nat×Nat):dM ρ n x n=some x:=by simp[dM]
theorem fW(ρ:ah){n k:Nat}(x:Nat×Nat)(h:k≠n):dM ρ n x k=ρ k:=by simp[dM,h]
structure nX (b:Nat) (w w':World):Prop where
 os:w'.os=w.os
 tape:w'.tape=w.tape
 output:w'.output=w.output
 size:w'.heap.size=w.heap.size
 block:∀k,k≠b->w'.heap[k]? =w.heap[k]?
structure bh (B:aC) (w w':World):Prop where
 os:w'.os=w.os
 tape:w'.tape=w.tape
 output:w'.output=w.output
 size:w.heap.size<=w'.heap.size
 block:∀k,k<w.heap.size->¬B.may k->w'.heap[k]? =w.heap[k]?
theorem bh.refl(B:aC)(w:World):bh B w w:=⟨rfl,rfl,rfl,Nat.le_refl _,fun _ _ _=>rfl⟩
theorem bh.trans{B:aC}{a b c:World}(h:bh B a b)(k:bh B b c):bh B a c:=⟨k.os.trans h.os,k.tape.trans h.tape,k.output.trans h.output,Nat.le_trans h.size k.size,fun i hi hm=>(k.block i (Nat.lt_of_lt_of_le hi h.size) hm).trans<|h.block i hi hm⟩
theorem nX.below{B:aC}{b:Nat}{w w':World}(h:nX b w w')(hb:B.may b):bh B w w':=⟨h.os,h.tape,h.output,by rw[h.size];exact Nat.le_refl _,fun k _ hm=>h.block k fun e=>hm (by rw[e];exact hb)⟩
theorem Fz.of{B:aC}{ρ σ:ah}{h h':Tr U}{w w':World}(f:Fz B ρ h w)(hl:ρ.le σ)(hw:∀b,b<w.heap.size->iz ρ h b->w'.heap[b]? =w.heap[b]?)(hd:∀b,b<w.heap.size->iz ρ h b->iz σ h' b)(hm:∀k,top<=k->σ k=ρ k:=by(intro k hk;first|rfl|exact fW _ _<|by omega)):Fz B σ h' w':=by intro n b sh e;rw[hm _<|eR _ _ _] at e;obtain⟨h0,l,c,e',fr,h1,h3,h4,h5⟩:=f n b sh e;have hb:b<w.heap.size:=(Array.getElem?_eq_some_iff.1 h3).1;exact⟨h0,l,c,e',fr,h1,(hw b hb h4).trans h3,hd b hb h4,fun i x hx=>by obtain⟨v,a1,a2,a3⟩:=h5 i x hx;exact⟨v,a1,VR.mono (Gm hl) _ _ a2,a3⟩⟩
theorem iz.sub{ρ:ah}{h h':Tr U}{b:Nat}(k:iz ρ h b)(hs:∀m o,m<top->h'.get m=some o->o.bN=false->∃p,h.get m=some p/\p.bN=false):iz ρ h' b:=by intro m o N hm hg hr;obtain⟨p,e1,e2⟩:=hs m o hm hg hr;exact k m p N hm e1 e2
def U.plain:U->Bool
 | .iter _ _ _ _ _=>false
 | .ep=>false
 | .tok _ _=>false
 |_=>true
def U.gQ:U->Bool
 | .iter _ _ _ _ _=>false
 | .ep=>false
 |_=>true
def U.kQ:U->Bool
 | .tok _ _=>true
 |_=>false
def gU(o1 o2:U):Prop:=(o2.bN=false->o1.bN=false)/\(o2.kQ=true->o1=o2)/\(o2.jy=true->o1.jy=true)
theorem gU.refl(o:U):gU o o:=⟨id,fun _=>rfl,id⟩
def U.own:U->Bool
 | .iter _ _ _ _ _=>false
 | .ep=>false
 | .tok _ _=>false
 | .ro _ _=>false
 | .lV _ _=>false
 |_=>true
theorem U.qm{o:U}(h:o.own=true):o.plain=true/\o.bN=false:=by cases o<;>first|exact⟨rfl,rfl⟩|cases h
theorem Rel.block{B:aC}{ρ:ah}{h:Tr U}{w:World}(r:Rel B ρ h w){n:Nat}{o:U}{b N:Nat}(ht:n<top)(hg:h.get n=some o)(hr:ρ n=some (b,N)):
 ∃o',w.heap[b]? =some o'/\OR ρ N o o'/\(o.bN=false->B.may b):=by
 obtain⟨b',N',o',h1,h2,h3,h4⟩:=r.is n o ht hg;rw[hr] at h1;cases h1;exact⟨o',h2,h3,h4⟩
theorem hZ.l9{ρ:ah}{w w':World}{n m:Nat}{es:List<|AV×AV}{ex:Bool}{left:List<|AV×AV}{cur:Option<|AV×AV}{b:Nat}(u:hZ ρ w n m es ex left cur)(hw:∀k,k≠b->w'.heap[k]? =w.heap[k]?)(hn:∀N,ρ n≠some (b,N))(hm:∀N,ρ m≠some (b,N)):hZ ρ w' n m es ex left cur:=by obtain⟨b1,N,bm,M,l,aK,seen,h1,h2,h3,h4,h5⟩:=u;exact⟨b1,N,bm,M,l,aK,seen,h1,h2,(hw b1 fun e=>hn N<|by rw[h1,e]).trans h3,(hw bm fun e=>hm M<|by rw[h2,e]).trans h4,h5⟩
theorem Rel.put{B:aC}{ρ:ah}{h:Tr U}{w w':World}(r:Rel B ρ h w){n:Nat}{p o:U}{o':Obj}{b N:Nat}(ht:n<top)(hg:h.get n=some p)(hp:p.plain=true)(bY:p.bN=false)(hr:ρ n=some (b,N))(xc:o.own=true)(hw:nX b w w')(hb:w'.heap[b]? =some o')(hO:OR ρ N o o'):Rel B ρ (h.put n<|some o) w':=by
 obtain⟨ho,wm⟩:=U.qm xc;obtain⟨_,_,_,hB⟩:=r.block ht hg hr;have g:∀m,m<top->(h.put n<|some o).get m=if m=n then some o else h.get m:=fun m hm=>Tr.cJ _ _ _ _ ht hm
 refine⟨?_,?_,?_,by rw[hw.size];exact r.size,?_,r.fz.of (ah.le_refl _) (fun b1 _ hn=>hw.block b1 fun e=>hn n p N ht hg bY (by rw[e];exact hr)) (fun b1 _ hn=>hn.sub fun m q hm hq da=>by
  rw[g m hm] at hq;by_cases e:m=n
  ·subst e;exact⟨p,hg,bY⟩
  ·rw[if_neg e] at hq;exact⟨q,hq,da⟩),r.tk.of (ah.le_refl _) (fun m q hm hq hr=>by
  rw[g m hm] at hq;by_cases e:m=n
  ·rw[if_pos e] at hq;cases hq;rw[wm] at hr;cases hr
  ·rw[if_neg e] at hq;exact hq) (by rw[hw.size];exact Nat.le_refl _) (fun b1 _ hn=>hw.block b1 fun e=>hn n p N ht hg bY (by rw[e];exact hr)) (fun b1 _ hn=>hn.sub fun m q hm hq da=>by
  rw[g m hm] at hq;by_cases e:m=n
  ·subst e;exact⟨p,hg,bY⟩
  ·rw[if_neg e] at hq;exact⟨q,hq,da⟩) fun _ _ _ _ _ e=>e⟩
 ·intro m q hm hq;rw[g m hm] at hq;by_cases e:m=n
  ·subst e;rw[if_pos rfl] at hq;cases hq;exact⟨b,N,o',hr,hb,hO,fun _=>hB bY⟩
  ·rw[if_neg e] at hq;obtain⟨b1,N1,o1,h1,h2,h3,h4⟩:=r.is m q hm hq;refine⟨b1,N1,o1,h1,(hw.block b1 fun e2=>?_).trans h2,h3,h4⟩;subst e2;exact e<|r.one m n q p b1 N1 N hm ht hq hg (.inr bY) h1 hr
 ·intro m k q q' b1 N1 M1 hm hk hq cZ b8 h1 h2;rw[g m hm] at hq;rw[g k hk] at cZ;have live:∀j,j<top->∀x,(if j=n then some o else h.get j)=some x->∃y,h.get j=some y/\(x.bN=false->y.bN=false):=by
   intro j _ x hx;by_cases e:j=n
   ·subst e;exact⟨p,hg,fun _=>bY⟩
   ·rw[if_neg e] at hx;exact⟨x,hx,id⟩
  obtain⟨y,hy,ln⟩:=live m hm q hq;obtain⟨z,hz,rP⟩:=live k hk q' cZ;exact r.one m k y z b1 N1 M1 hm hk hy hz (b8.imp ln rP) h1 h2
 ·intro i m es ex left cur hi hq;rw[g i hi] at hq;by_cases e:i=n
  ·subst e;rw[if_pos rfl] at hq;cases hq;simp[U.plain] at ho
  ·rw[if_neg e] at hq;obtain⟨hm,hl,u⟩:=r.iter i m es ex left cur hi hq;have lp:m≠n:=by intro e2;subst e2;rw[hg] at hl;cases hl;simp[U.plain] at hp
   refine⟨hm,by rw[g m hm,if_neg lp];exact hl,u.l9 hw.block (fun M e2=>e ?_) fun M e2=>lp ?_⟩
   ·exact r.one i n _ p b M N hi ht hq hg (.inr bY) e2 hr
   ·exact r.one m n _ p b M N hm ht hl hg (.inr bY) e2 hr
 ·intro i j m es ex left cur dD eW eJ eL hi hj h1 h2;rw[g i hi] at h1;rw[g j hj] at h2;by_cases e:i=n
  ·rw[if_pos e] at h1;cases h1;simp[U.plain] at ho
  ·rw[if_neg e] at h1;by_cases e2:j=n
   ·rw[if_pos e2] at h2;cases h2;simp[U.plain] at ho
   ·rw[if_neg e2] at h2;exact r.lone i j m es ex left cur dD eW eJ eL hi hj h1 h2
theorem Rel.drop{B:aC}{ρ:ah}{h:Tr U}{w:World}(r:Rel B ρ h w){n:Nat}(ht:n<top)(hn:h.get n≠some .ep):Rel B ρ (h.put n none) w:=by
 have g:∀m,m<top->(h.put n none).get m=if m=n then none else h.get m:=fun m hm=>Tr.cJ _ _ _ _ ht hm
 refine⟨?_,?_,?_,r.size,?_,r.fz.of (ah.le_refl _) (fun _ _ _=>rfl) (fun b1 _ hn=>hn.sub fun m q hm hq da=>by
  rw[g m hm] at hq;by_cases e:m=n
  ·rw[if_pos e] at hq;cases hq
  ·rw[if_neg e] at hq;exact⟨q,hq,da⟩),r.tk.of (ah.le_refl _) (fun m q hm hq _=>by
  rw[g m hm] at hq;by_cases e:m=n
  ·rw[if_pos e] at hq;cases hq
  ·rw[if_neg e] at hq;exact hq) (Nat.le_refl _) (fun _ _ _=>rfl) (fun b1 _ hn=>hn.sub fun m q hm hq da=>by
  rw[g m hm] at hq;by_cases e:m=n
  ·rw[if_pos e] at hq;cases hq
  ·rw[if_neg e] at hq;exact⟨q,hq,da⟩) fun _ _ _ _ _ e=>e⟩
 ·intro m q hm hq;rw[g m hm] at hq;by_cases e:m=n
  ·rw[if_pos e] at hq;cases hq
  ·rw[if_neg e] at hq;exact r.is m q hm hq
 ·intro m k q q' b1 N1 M1 hm hk hq cZ b8 h1 h2;rw[g m hm] at hq;rw[g k hk] at cZ;by_cases e:m=n
  ·rw[if_pos e] at hq;cases hq
  ·by_cases e2:k=n
   ·rw[if_pos e2] at cZ;cases cZ
   ·rw[if_neg e] at hq;rw[if_neg e2] at cZ;exact r.one m k q q' b1 N1 M1 hm hk hq cZ b8 h1 h2
 ·intro i m es ex left cur hi hq;rw[g i hi] at hq;by_cases e:i=n
  ·rw[if_pos e] at hq;cases hq
  ·rw[if_neg e] at hq;obtain⟨hm,hl,u⟩:=r.iter i m es ex left cur hi hq;have lp:m≠n:=by intro e2;subst e2;exact hn hl
   exact⟨hm,by rw[g m hm,if_neg lp];exact hl,u⟩
 ·intro i j m es ex left cur dD eW eJ eL hi hj h1 h2;rw[g i hi] at h1;rw[g j hj] at h2;by_cases e:i=n
  ·rw[if_pos e] at h1;cases h1
  ·rw[if_neg e] at h1;by_cases e2:j=n
   ·rw[if_pos e2] at h2;cases h2
   ·rw[if_neg e2] at h2;exact r.lone i j m es ex left cur dD eW eJ eL hi hj h1 h2
structure dj (w w':World):Prop where
 os:w'.os=w.os
 tape:w'.tape=w.tape
 output:w'.output=w.output
 size:w.heap.size<=w'.heap.size
 block:∀k,k<w.heap.size->w'.heap[k]? =w.heap[k]?
theorem dj.drew(w:World):dj w {w with drawn:=w.drawn+1}:=⟨rfl,rfl,rfl,Nat.le_refl _,fun _ _=>rfl⟩
theorem dj.alloc(w:World)(o:Obj):dj w {w with heap:=w.heap.push o}:=⟨rfl,rfl,rfl,by simp,fun k hk=>by simp[Array.getElem?_push];intro e;omega⟩
theorem dj.trans{a b c:World}(h:dj a b)(k:dj b c):dj a c:=⟨k.os.trans h.os,k.tape.trans h.tape,k.output.trans h.output,Nat.le_trans h.size k.size,fun i hi=>(k.block i<|Nat.lt_of_lt_of_le hi h.size).trans<|h.block i hi⟩
theorem dj.below{B:aC}{w w':World}(h:dj w w')(_:∀k,w.heap.size<=k->B.may k):bh B w w':=⟨h.os,h.tape,h.output,h.size,fun k hk _=>h.block k hk⟩
theorem ff{w:World}{b:Nat}{o:Obj}(h:w.heap[b]? =some o):b<w.heap.size:=(Array.getElem?_eq_some_iff.1 h).1
theorem Rel.wq{B:aC}{ρ:ah}{h:Tr U}{w w':World}(r:Rel B ρ h w)(g:dj w w'):Rel B ρ h w':=by
 refine⟨?_,r.one,?_,fun k hk=>r.size k<|Nat.le_trans g.size hk,r.lone,r.fz.of (ah.le_refl _) (fun b hb _=>g.block b hb) fun _ _ hn=>hn,r.tk.of (ah.le_refl _) (fun _ _ _ hq _=>hq) g.size (fun b hb _=>g.block b hb) (fun _ _ hn=>hn) fun _ _ _ _ _ e=>e⟩
 ·intro m q hm hq;obtain⟨b1,N1,o1,h1,h2,h3,h4⟩:=r.is m q hm hq;exact⟨b1,N1,o1,h1,(g.block b1<|ff h2).trans h2,h3,h4⟩
 ·intro i m es ex left cur hi hq;obtain⟨hm,dy,b1,N,bm,M,l,aK,seen,h1,h2,h3,h4,h5⟩:=r.iter i m es ex left cur hi hq;exact⟨hm,dy,b1,N,bm,M,l,aK,seen,h1,h2,(g.block b1<|ff h3).trans h3,(g.block bm<|ff h4).trans h4,h5⟩
theorem Rel.name{B:aC}{ρ:ah}{h:Tr U}{w:World}(r:Rel B ρ h w){n:Nat}{o:U}{o':Obj}{b N:Nat}(ht:n<top)(rQ:ρ n=none)(ho:o.plain=true)(hb:w.heap[b]? =some o')(hB:o.bN=false->B.may b)(QL:∀k sh,ρ (hn k b sh)=none)(gV:∀m p,m<top->h.get m=some p->∀M,ρ m≠some (b,M))(hO:OR (dM ρ n (b,N)) N o o')(hT:nk B (dM ρ n (b,N)) (h.put n<|some o) w):Rel B (dM ρ n (b,N)) (h.put n<|some o) w:=by
 have hl:ρ.le<|dM ρ n (b,N):=kJ rQ;have eX:h.get n=none:=by
  cases e:h.get n with
  |none=>rfl
  |some p=>obtain⟨_,_,_,h1,_⟩:=r.is n p ht e;rw[rQ] at h1;cases h1
 have g:∀m,m<top->(h.put n<|some o).get m=if m=n then some o else h.get m:=fun m hm=>Tr.cJ _ _ _ _ ht hm
 refine⟨?_,?_,?_,r.size,?_,fun k b1 sh e=>by
  rw[fW ρ _ (by have:=eR k b1 sh;omega)] at e;obtain⟨h0,l,c,e',fr,h1,h3,h4,h5⟩:=r.fz k b1 sh e;refine⟨h0,l,c,e',fr,h1,h3,fun m q M hm hq da e2=>?_,fun i x hx=>by obtain⟨v,a1,a2,a3⟩:=h5 i x hx;exact⟨v,a1,VR.mono (Gm hl) _ _ a2,a3⟩⟩;rw[g m hm] at hq;by_cases e3:m=n
  ·subst e3;rw[eQ] at e2;cases e2;exact e (QL k sh)
  ·rw[if_neg e3] at hq;rw[fW ρ _ e3] at e2;exact h4 m q M hm hq da e2,hT⟩
 ·intro m q hm hq;rw[g m hm] at hq;by_cases e:m=n
  ·subst e;rw[if_pos rfl] at hq;cases hq;exact⟨b,N,o',eQ _ _ _,hb,hO,hB⟩
  ·rw[if_neg e] at hq;obtain⟨b1,N1,o1,h1,h2,h3,h4⟩:=r.is m q hm hq;exact⟨b1,N1,o1,hl _ _ h1,h2,h3.mono hl,h4⟩
 ·intro m k q q' b1 N1 M1 hm hk hq cZ b8 h1 h2;rw[g m hm] at hq;rw[g k hk] at cZ;by_cases e:m=n
  ·by_cases e2:k=n
   ·omega
   ·rw[if_neg e2] at cZ;subst e;rw[eQ] at h1;cases h1;rw[fW ρ _ e2] at h2;exact absurd h2<|gV k q' hk cZ M1
  ·rw[if_neg e] at hq;rw[fW ρ _ e] at h1;by_cases e2:k=n
   ·subst e2;rw[eQ] at h2;cases h2;exact absurd h1<|gV m q hm hq N1
   ·rw[if_neg e2] at cZ;rw[fW ρ _ e2] at h2;exact r.one m k q q' b1 N1 M1 hm hk hq cZ b8 h1 h2
 ·intro i m es ex left cur hi hq;rw[g i hi] at hq;by_cases e:i=n
  ·subst e;rw[if_pos rfl] at hq;cases hq;simp[U.plain] at ho
  ·rw[if_neg e] at hq;obtain⟨hm,dy,u⟩:=r.iter i m es ex left cur hi hq;have lp:m≠n:=by intro e2;subst e2;rw[eX] at dy;cases dy
   exact⟨hm,by rw[g m hm,if_neg lp];exact dy,u.mono hl⟩
 ·intro i j m es ex left cur dD eW eJ eL hi hj h1 h2;rw[g i hi] at h1;rw[g j hj] at h2;by_cases e:i=n
  ·rw[if_pos e] at h1;cases h1;simp[U.plain] at ho
  ·rw[if_neg e] at h1;by_cases e2:j=n
   ·rw[if_pos e2] at h2;cases h2;simp[U.plain] at ho
   ·rw[if_neg e2] at h2;exact r.lone i j m es ex left cur dD eW eJ eL hi hj h1 h2
theorem Rel.new{B:aC}{ρ:ah}{h:Tr U}{w:World}(r:Rel B ρ h w){n:Nat}{o:U}{o':Obj}{N:Nat}(ht:n<top)(rQ:ρ n=none)(xc:o.own=true)(hO:OR (dM ρ n (w.heap.size,N)) N o o'):Rel B (dM ρ n (w.heap.size,N)) (h.put n<|some o) {w with heap:=w.heap.push o'}:=by
 obtain⟨ho,wm⟩:=U.qm xc;refine(r.wq<|dj.alloc w o').name ht rQ ho (by simp) (fun _=>r.size _<|Nat.le_refl _) (fun k sh=>by
  cases e:ρ (Rn.hn k w.heap.size sh) with
  |none=>rfl
  |some x=>obtain⟨_,_,_,_,_,_,h3,_⟩:=r.fz k w.heap.size sh (by rw[e];exact fun h=>by cases h);exact absurd (ff h3)<|Nat.lt_irrefl _) (fun m p hm hp M e=>?_) hO ?_
 ·obtain⟨b1,N1,o1,h1,h2,_⟩:=r.is m p hm hp;rw[e] at h1;cases h1;exact absurd (ff h2)<|Nat.lt_irrefl _
 ·have g:∀m,m<top->(h.put n<|some o).get m=if m=n then some o else h.get m:=fun m hm=>Tr.cJ _ _ _ _ ht hm
  exact r.tk.of (kJ rQ) (fun m q hm hq hr=>by
   rw[g m hm] at hq;by_cases e:m=n
   ·rw[if_pos e] at hq;cases hq;rw[wm] at hr;cases hr
   ·rw[if_neg e] at hq;exact hq) (dj.alloc w o').size (fun b hb _=>(dj.alloc w o').block b hb) (fun b1 oD hn m q M hm hq da e2=>by
   rw[g m hm] at hq;by_cases e3:m=n
   ·subst e3;rw[eQ] at e2;cases e2;exact absurd oD (Nat.lt_irrefl _)
   ·rw[if_neg e3] at hq;rw[fW ρ _ e3] at e2;exact hn m q M hm hq da e2) (fun j x sh _ _ e=>by rw[fW ρ _ (by have:=eR j x sh;omega)];exact e)
structure Ext (a b:Nat) (ρ σ:ah):Prop where
 le:ρ.le σ
 out:∀k,k<top->¬(a<=k/\k<b)->σ k=ρ k
theorem Ext.refl(a b:Nat)(ρ:ah):Ext a b ρ ρ:=⟨ah.le_refl ρ,fun _ _ _=>rfl⟩
theorem Ext.trans{a b c:Nat}{ρ σ τ:ah}(mm:a<=b)(SS:b<=c)(h:Ext a b ρ σ)(k:Ext b c σ τ):Ext a c ρ τ:=⟨ah.le_trans h.le k.le,fun j hj hk=>(k.out j hj<|by omega).trans<|h.out j hj<|by omega⟩
theorem Ext.lq{n:Nat}{ρ:ah}{x:Nat×Nat}(h:ρ n=none):Ext n (n+1) ρ<|dM ρ n x:=⟨kJ h,fun k _ hk=>fW ρ x<|by omega⟩
def bH(a b:Nat)(ρ:ah):Prop:=∀k,a<=k->k<b->k<top->ρ k=none
theorem bH.next{a b c:Nat}{ρ σ:ah}(hf:bH a c ρ)(mm:a<=b)(e:Ext a b ρ σ):bH b c σ:=fun k h1 h2 h3=>(e.out k h3<|by omega).trans<|hf k (by omega) h2 h3
theorem bH.sub{a b c d:Nat}{ρ:ah}(hf:bH a d ρ)(h1:a<=b)(h2:c<=d):bH b c ρ:=fun k p q r=>hf k (by omega) (by omega) r
end Go.Rn
namespace Go.Rn
open Go.RowKit
theorem dW{n:Nat}{o:U}{s s1:AS}(h:aY n s= .ok o s1):n<s.nx/\s.h.get n=some o/\s1.h=s.h/\s1.nx=s.nx:=by
 obtain⟨h1,h2,rfl⟩:=BQ h;by_cases e:n<s.mark
 ·rw[if_pos e];exact⟨h1,h2,rfl,rfl⟩
 ·rw[if_neg e];exact⟨h1,h2,rfl,rfl⟩
theorem gj{n:Nat}{o:Option U}{u:Unit}{s s1:AS}(h:aZ n o s= .ok u s1):
 n<s.nx/\n<top/\(∃p,s.h.get n=some p/\p.bN=false)/\s1.h=s.h.put n o/\s1.nx=s.nx:=by
 obtain⟨h1,h2,h3,rfl⟩:=G2 h;by_cases e:n<s.mark
 ·rw[if_pos e];exact⟨h1,h2,h3,rfl,rfl⟩
 ·rw[if_neg e];exact⟨h1,h2,h3,rfl,rfl⟩
theorem aL{n m:Nat}:Nat.ble n m=true↔n<=m:=by rw[Nat.ble_eq]
theorem cj{n m:Nat}:Nat.beq n m=true↔n=m:=by rw[Nat.beq_eq]
theorem and_true{a b:Bool}:and a b=true↔a=true/\b=true:=Bool.and_eq_true_iff
theorem ye{t:Tr AV}{z:List AV}:∀{k off:Nat} {l:List AV},eF t z k off=some l->l.length=k/\∀i,i<k->cellAt t z (off+i)=l[i]?
 |0,off,l,h=>by
  simp only[eF] at h;injection h with h;subst h
  exact⟨rfl,fun i hi=>by omega⟩
 |k+1,off,l,h=>by
  simp only[eF] at h;cases e:cellAt t z off with
  |none=>rw[e] at h;cases h
  |some v=>
   simp only[e] at h;cases e2:eF t z k (off+1) with
   |none=>simp only[e2] at h;cases h
   |some r=>
    simp only[e2] at h;injection h with h;subst h
    obtain⟨a,b⟩:=ye e2;refine⟨by simp[a],fun i hi=>?_⟩;cases i with
    |zero=>simpa using e
    |succ i=>have:=b i (by omega);rw[show off+1+i=off+(i+1) from by omega] at this;simpa using this
def Row(ρ:ah)(c:Array Value)(n:Nat)(I:Nat->Option AV):Prop:=∀i,i<n->∃x v,I i=some x/\x.bB=true/\c[i]? =some v/\VR ρ x v
theorem Row.get{ρ:ah}{c:Array Value}{n:Nat}{I:Nat->Option AV}(r:Row ρ c n I){off k:Nat}{l:List AV}(hk:off+k<=n)(hl:l.length=k)(h:∀i,i<k->I (off+i)=l[i]?):
 ∃vs:List Value,vs.length=k/\aq ρ l vs/\(∀j v,vs[j]? =some v->c[off+j]? =some v)/\∀x∈l,x.bB=true:=by
 have cell:∀i,i<k->∃x v,l[i]? =some x/\x.bB=true/\c[off+i]? =some v/\VR ρ x v:=by intro i hi;obtain⟨x,v,h1,h2,h3,h4⟩:=r (off+i) (by omega);exact⟨x,v,by rw[←h i hi];exact h1,h2,h3,h4⟩
 refine⟨(List.range k).map fun i=>c.getD (off+i) undef,by simp,?_,?_,?_⟩
 ·refine aq.B9 _ _ (by simp[hl]) fun i a b ha hb=>?_;have hi:i<k:=by have:=List.getElem?_eq_some_iff.1 ha;obtain⟨h1,_⟩:=this;omega
  obtain⟨x,v,h1,h2,h3,h4⟩:=cell i hi;rw[h1] at ha;cases ha;have eD:b=v:=by rw[List.getElem?_map,List.getElem?_range hi] at hb;simp only[Option.map_some,Option.some.injEq] at hb;rw[←hb,Array.getD_eq_getD_getElem?,h3];rfl
  rw[eD];exact h4
 ·intro j v hv;have hj:j<k:=by have:=List.getElem?_eq_some_iff.1 hv;obtain⟨h1,_⟩:=this;simpa using h1
  obtain⟨x,u,h1,h2,h3,h4⟩:=cell j hj;rw[List.getElem?_map,List.getElem?_range hj] at hv;simp only[Option.map_some,Option.some.injEq] at hv;rw[←hv,Array.getD_eq_getD_getElem?,h3];rfl
 ·intro x hx;obtain⟨i,hi,rfl⟩:=List.getElem_of_mem hx;obtain⟨y,v,h1,h2,h3,h4⟩:=cell i (by omega);rw[List.getElem?_eq_getElem hi] at h1;cases h1;exact h2
theorem yC{P:Program}{w:World}{b off:Nat}{c:Array Value}{e:TypeId}{fr:Nat×Nat}{vs:List Value}(hb:w.heap[b]? =some (.cells c e fr))(h:∀j v,vs[j]? =some v->c[off+j]? =some v):(loadCells ⟨b,off,none⟩ vs.length).run P w= .ok vs.toArray w:=by
 refine run_loadCells_list w ⟨b,off,none⟩ vs fun j v hv=>?_;have Iw:(Addr.mk b off none).add j=⟨b,off+j,none⟩:=by
  unfold Addr.add;by_cases q:j=0
  ·subst q;simp
  ·rw[if_neg q]
 rw[Iw];simp only[World.cell?,hb];exact h j v hv
theorem mG{P:Program}{B:aC}{ρ:ah}{w:World}{n off k:Nat}{l:List AV}{s s1:AS}{b N:Nat}(fi:aO s)(r:Rel B ρ s.h w)(h:dG n off k s= .ok l s1)(hn:ρ n=some (b,N)):
 s1.h=s.h/\s1.nx=s.nx/\l.length=k/\(∀x∈l,x.bB=true)/\∃vs:List Value,(loadCells ⟨b,off,none⟩ k).run P w= .ok vs.toArray w/\aq ρ l vs/\∀j v,vs[j]? =some v->w.cell? ⟨b,off+j,none⟩=some v:=by
 cases k with
 |zero=>have h':M.pure [] s= .ok l s1:=h;obtain⟨rfl,rfl⟩:=aM h';exact⟨rfl,rfl,rfl,fun x hx=>(by cases hx),[],rfl,by simp[aq],fun j v h=>(by simp at h)⟩
 |succ k=>
  unfold dG at h;obtain⟨o,s2,h1,h2⟩:=M.aI h;obtain⟨hx,hg,hh,bj⟩:=dW h1;have ht:n<top:=Nat.lt_of_lt_of_le hx fi.nx;obtain⟨o',hb,hO,_⟩:=r.block ht hg hn;cases o with
  |cells m t z=>obtain⟨q1,q2⟩:=bM h2;obtain⟨q3,rfl⟩:=de q2;obtain⟨c,e,rfl,hc,hm,row⟩:=hO;obtain⟨g1,g2⟩:=ye q3;obtain⟨vs,v1,v2,v3,v4⟩:=Row.get (ρ:=ρ) (c:=c) (n:=m) (I:=cellAt t z) row (aL.1 q1) g1 g2;refine⟨hh,bj,g1,v4,vs,?_,v2,fun j v hv=>by simp only[World.cell?,hb];exact v3 j v hv⟩;have:=yC (P:=P) hb v3;rw[v1] at this;exact this
  |ro m t=>
   obtain⟨q1,q2⟩:=bM h2;obtain⟨q3,rfl⟩:=de q2;obtain⟨c,e,fr,rfl,hc,hm,row⟩:=hO;obtain⟨g1,g2⟩:=ye q3;have PK:Row ρ c m<|cellAt t []:=by intro i hi;obtain⟨x,v,a1,a2,a3,a4⟩:=row i hi;exact⟨x,v,by unfold cellAt;rw[a1],a2,a3,a4⟩
   obtain⟨vs,v1,v2,v3,v4⟩:=PK.get (aL.1 q1) g1 g2;refine⟨hh,bj,g1,v4,vs,?_,v2,fun j v hv=>by simp only[World.cell?,hb];exact v3 j v hv⟩;have:=yC (P:=P) hb v3;rw[v1] at this;exact this
  |_=>cases h2
theorem AL{w:World}{b:Nat}{cs c:Array Value}{e:TypeId}{fr:Nat×Nat}(hb:w.heap[b]? =some (.cells c e fr)):
 nX b w (w.setRow b cs)/\(w.setRow b cs).heap[b]? =some (.cells cs e fr):=by
 refine⟨⟨rfl,rfl,rfl,by simp[World.setRow],fun k hk=>?_⟩,setRow_heap w b c cs e fr hb⟩;simp only[World.setRow,Array.getElem?_modify];rw[if_neg<|by omega]
theorem J7{ρ:ah}{x:AV}{v:Value}(h:VR ρ x v)(hx:x.bB=true):v.oneCell'=true:=by
 cases v with
 |agg cs=>exact absurd rfl (VR.bB h hx cs).1
 |tuple cs=>exact absurd rfl (VR.bB h hx cs).2
 |_=>rfl
theorem xZ{ρ:ah}:∀{l:List AV} {vs:List Value},aq ρ l vs->(∀x∈l,x.bB=true)->∀v∈vs,v.oneCell'=true
 |[],vs,h,_,v,hv=>by simp only[aq] at h;subst h;cases hv
 |x::l,vs,h,hx,v,hv=>by
  simp only[aq] at h;obtain⟨y,ys,rfl,a,b⟩:=h;rcases List.mem_cons.1 hv with rfl|hv
  ·exact J7 a<|hx x List.mem_cons_self
  ·exact xZ b (fun z hz=>hx z<|List.mem_cons_of_mem _ hz) v hv
theorem Row.set{ρ:ah}{c:Array Value}{n:Nat}{t:Tr AV}{z:List AV}(r:Row ρ c n<|cellAt t z){off m:Nat}{l:List AV}{vs:List Value}(hl:aq ρ l vs)(h1:∀x∈l,x.bB=true)(SN:off<=n)(hm:m=max n (off+l.length))(hc:m<=c.size)(ht:m<=top):
 Row ρ ((c.toList.take off++vs++c.toList.drop (off+vs.length)).toArray) m (cellAt (Tr.fill l off t) z):=by
 have hlen:l.length=vs.length:=hl.length;intro i hi;have PL:cellAt (Tr.fill l off t) z i=match (Tr.fill l off t).get i with|some v=>some v|none=>z[i % z.length]? :=rfl
 rw[PL,Tr.Bv _ _ _ _ (by omega)<|by omega];by_cases q:off<=i/\i<off+l.length
 ·rw[if_pos q];obtain⟨x,hx⟩:∃x,l[i - off]? =some x:=⟨l[i - off]'(by omega),List.getElem?_eq_getElem<|by omega⟩;obtain⟨v,hv,hr⟩:=hl.get (i - off) x hx;refine⟨x,v,by rw[hx],h1 x<|List.mem_of_getElem? hx,?_,hr⟩;simp only[List.getElem?_toArray];rw[List.append_assoc,List.getElem?_append_right (by simp;omega)];simp only[List.length_take,Array.length_toList];rw[Nat.min_eq_left (by omega),List.getElem?_append_left<|by omega];exact hv
 ·rw[if_neg q];have eM:i<n:=by omega
  obtain⟨x,v,a1,a2,a3,a4⟩:=r i eM;refine⟨x,v,a1,a2,?_,a4⟩;simp only[List.getElem?_toArray];by_cases q2:i<off
  ·rw[List.append_assoc,List.getElem?_append_left (by simp;omega),List.getElem?_take_of_lt q2];simpa using a3
  ·rw[List.getElem?_append_right (by simp;omega)];simp only[List.length_append,List.length_take,Array.length_toList,List.getElem?_drop];rw[Nat.min_eq_left<|by omega];rw[show off+vs.length+(i - (off+vs.length))=i from by omega];simpa using a3
theorem size_set{c:Array Value}{vs:List Value}{off:Nat}(h:off+vs.length<=c.size):((c.toList.take off++vs++c.toList.drop (off+vs.length)).toArray).size=c.size:=by simp;omega
theorem A9{P:Program}{w:World}{b off:Nat}{c:Array Value}{e:TypeId}{vs:List Value}(hb:w.heap[b]? =some (.cells c e (0,0)))(h:off+vs.length<=c.size)(h1:∀v∈vs,v.oneCell'=true):
 (storeCells ⟨b,off,none⟩ vs).run P w= .ok () (w.setRow b (c.toList.take off++vs++c.toList.drop (off+vs.length)).toArray):=by
 have:=run_storeCells_at P b off e vs 0 c w hb (by simpa using h) h1;simpa using this
theorem xW{P:Program}{B:aC}{ρ:ah}{w:World}{n off:Nat}{l:List AV}{vs:List Value}{u:Unit}{s s1:AS}{b N:Nat}(fi:aO s)(r:Rel B ρ s.h w)(h:jg n off l s= .ok u s1)(hn:ρ n=some (b,N))(hl:aq ρ l vs):
 s1.nx=s.nx/\∃w',(storeCells ⟨b,off,none⟩ vs).run P w= .ok () w'/\Rel B ρ s1.h w'/\bh B w w':=by
 cases l with
 |nil=>simp only[aq] at hl;subst hl;have h':M.pure () s= .ok u s1:=h;obtain⟨_,rfl⟩:=aM h';exact⟨rfl,w,rfl,r,bh.refl _ _⟩
 |cons x l=>
  unfold jg at h;obtain⟨o,s2,h1,h2⟩:=M.aI h;obtain⟨hx,hg,hh,bj⟩:=dW h1;have ht:n<top:=Nat.lt_of_lt_of_le hx fi.nx;obtain⟨o',hb,hO,hB⟩:=r.block ht hg hn;cases o with
  |cells m t z=>obtain⟨q1,q2⟩:=bM h2;obtain⟨q3,q4⟩:=and_true.1 q1;obtain⟨q5,q6⟩:=and_true.1 q4;obtain⟨_,_,_,e1,e2⟩:=gj q2;obtain⟨c,e,rfl,hc,hm,row⟩:=hO;have hlen:(x::l).length=vs.length:=hl.length;have h3:off+(x::l).length<=m:=aL.1 q3;have h4:m<=top:=aL.1 q5;have h5:∀y∈x::l,y.bB=true:=fun y hy=>List.all_eq_true.1 q6 y hy;have lr:=A9 (P:=P) (off:=off) (vs:=vs) hb (by omega)<|xZ hl h5;obtain⟨g1,g2⟩:=AL (cs:=(c.toList.take off++vs++c.toList.drop (off+vs.length)).toArray) hb;refine⟨by rw[e2,bj],_,lr,?_,g1.below<|hB rfl⟩;rw[e1,hh];refine r.put ht hg rfl rfl hn rfl g1 g2 ?_;refine⟨_,e,rfl,(size_set<|by omega).trans hc,hm,?_⟩;exact Row.set (ρ:=ρ) (c:=c) (n:=m) row hl h5 (by omega) (by omega) (by omega) h4
  |_=>cases h2
theorem oW{l:List AV}{i:Nat}(hl:l.length<=top)(hi:i<l.length):cellAt (Tr.fill l 0 .nil) [] i=l[i]? :=by unfold cellAt;rw[Tr.Bv _ _ _ _ (by omega) (by omega),if_pos<|by omega];rw[Nat.sub_zero,List.getElem?_eq_getElem hi]
theorem AY{P:Program}{B:aC}{ρ:ah}{w:World}{l:List AV}{vs:List Value}{n:Nat}{s s1:AS}(e:TypeId)(rest:List Value)(r:Rel B ρ s.h w)(hf:bH s.nx s1.nx ρ)(h:newRow l s= .ok n s1)(hl:aq ρ l vs):
 n=s.nx/\s1.nx=s.nx+1/\∃σ,Ext s.nx s1.nx ρ σ/\σ n=some (w.heap.size,vs.length+rest.length)/\
  (Go.newRow e (vs++rest).toArray).run P w= .ok ⟨w.heap.size,0,none⟩ {w with heap:=w.heap.push<|.cells (vs++rest).toArray e}/\
  Rel B σ s1.h {w with heap:=w.heap.push<|.cells (vs++rest).toArray e}:=by
 unfold newRow at h;obtain⟨q1,q2⟩:=bM h;obtain⟨q3,q4⟩:=and_true.1 q1;obtain⟨ht,rfl,rfl⟩:=jQ q2;have h1:∀y∈l,y.bB=true:=fun y hy=>List.all_eq_true.1 q4 y hy;have h2:l.length<=top:=aL.1 q3;have hlen:=hl.length;have dR:ρ s.nx=none:=hf s.nx (Nat.le_refl _) (Nat.lt_succ_self _) (by omega);refine⟨rfl,rfl,dM ρ s.nx (w.heap.size,vs.length+rest.length),Ext.lq dR,eQ _ _ _,rfl,?_⟩;refine r.new ht dR rfl ?_;refine⟨_,e,rfl,by simp,by omega,fun i hi=>?_⟩;obtain⟨x,hx⟩:∃x,l[i]? =some x:=⟨l[i]'hi,List.getElem?_eq_getElem hi⟩;obtain⟨v,hv,hr⟩:=hl.get i x hx;refine⟨x,v,by rw[oW h2 hi];exact hx,h1 x<|List.mem_of_getElem? hx,?_,hr.mono<|kJ dR⟩;simp only[List.getElem?_toArray];rw[List.getElem?_append_left<|by omega];exact hv
end Go.Rn
namespace Go.Rn
open Go.RowKit
theorem Fh(ρ:ah){v:Value}{x:AV}(h:vM v=some x):VR ρ x v:=by
 unfold vM at h;split at h<;>first
  |(injection h with h;subst h;simp only[VR];done)
  |(cases h;done)
  |skip
 rename_i len cap;cases hb:(Nat.beq len 0&&Nat.beq cap 0) with
 |false=>rw[hb] at h;cases h
 |true=>
  rw[hb] at h;injection h with h;subst h
  obtain⟨a,b⟩:=and_true.1 hb;have a':=cj.1 a;have b':=cj.1 b;subst a';subst b';simp[VR]
theorem AM(ρ:ah):∀{l:List Value} {x:List AV},nP l=some x->aq ρ x l
 |[],x,h=>by simp only[nP] at h;injection h with h;subst h;simp only[aq]
 |v::l,x,h=>by
  simp only[nP] at h;cases e:vM v with
  |none=>rw[e] at h;cases h
  |some y=>
   simp only[e] at h;cases e2:nP l with
   |none=>simp only[e2] at h;cases h
   |some r=>
    simp only[e2] at h;injection h with h;subst h
    simp only[aq];exact⟨v,l,rfl,Fh ρ e,AM ρ e2⟩
theorem AN(ρ:ah){v:Value}{x:AV}(h:ofValue v=some x):VR ρ x v:=by
 unfold ofValue at h;split at h
 ·rename_i cs;cases e:nP cs.toList with
  |none=>rw[e] at h;cases h
  |some l=>simp only[e] at h;injection h with h;subst h;simp only[VR];exact⟨cs,rfl,AM ρ e⟩
 ·rename_i cs;cases e:nP cs.toList with
  |none=>rw[e] at h;cases h
  |some l=>simp only[e] at h;injection h with h;subst h;simp only[VR];exact⟨cs,rfl,AM ρ e⟩
 ·exact Fh ρ h
def dN(ρ:ah):Prop:=∀g,g<fw->∃N,ρ g=some (g,N)
theorem dN.mono{ρ σ:ah}(h:dN ρ)(l:ρ.le σ):dN σ:=fun g hg=>let ⟨N,e⟩:=h g hg;⟨N,l _ _ e⟩
theorem vG{ρ:ah}{nt:Nat}{t:Tr AV}{a:Act}(k:TR ρ nt t a.tmps)(hg:dN ρ){x:Operand}{v:AV}(h:ak t x=some v):VR ρ v<|a.eval x:=by
 cases x with
 |tmp i=>exact k.2 i v h
 |const c=>exact AN ρ h
 |global g=>
  have h': @Bool.rec (fun _=>Option AV) none (some<|.ptr<|some (g,0)) (Nat.blt g fw)=some v:=h;rw[tp] at h';by_cases e:g<fw
  ·rw[if_pos e] at h';injection h' with h';subst h'
   obtain⟨N,hN⟩:=hg g e;simp only[VR];exact⟨g,N,hN,rfl⟩
  ·rw[if_neg e] at h';cases h'
 |func f=>
  have h':some (AV.func (.func f) [] [])=some v:=h;injection h' with h';subst h'
  simp only[VR,aq];exact⟨rfl, #[], #[],rfl,rfl,rfl⟩
theorem tc{ρ:ah}{ev:Operand->Option AV}{ec:Operand->Value}(he:∀x v,ev x=some v->VR ρ v (ec x)):∀{l:List Operand} {vs:List AV},eB ev l=some vs->aq ρ vs (l.map ec)
 |[],vs,h=>by simp only[eB] at h;injection h with h;subst h;simp only[aq,List.map_nil]
 |x::l,vs,h=>by
  simp only[eB] at h;cases e:ev x with
  |none=>rw[e] at h;cases h
  |some y=>
   simp only[e] at h;cases e2:eB ev l with
   |none=>simp only[e2] at h;cases h
   |some r=>
    simp only[e2] at h;injection h with h;subst h
    simp only[aq,List.map_cons];exact⟨_,_,rfl,he x y e,tc he e2⟩
section
variable {P:Program} {w:World}
theorem aR{t:TypeId}{d:TypeDesc}(h:P.underlying t=some d):(underlying t).run P w= .ok d w:=by simp[underlying,h]
theorem lE{t:TypeId}{i:TypeInfo}(h:P.info? t=some i):(typeInfo t).run P w= .ok i w:=by simp[typeInfo,h]
theorem cP{t:TypeId}{k:Nat}(h:bW P t=some k):(sizeOf t).run P w= .ok k w:=by
 unfold bW at h;cases e:P.info? t with
 |none=>rw[e] at h;cases h
 |some i=>simp only[e] at h;injection h with h;subst h;simp[sizeOf,lE e]
theorem qh(ρ:ah){t:TypeId}{z:AV}(h:eT P t=some z):∃v,(zeroValue t).run P w= .ok v w/\VR ρ z v:=by
 unfold eT at h;cases e:P.info? t with
 |none=>rw[e] at h;cases h
 |some i=>
  simp only[e] at h;cases e2:i.zero with
  |none=>simp only[e2] at h;cases h
  |some v=>simp only[e2] at h;exact⟨v,by simp[zeroValue,lE e,e2],AN ρ h⟩
theorem qf{t:TypeId}{b:Bool}(h:ke P t=some b):(isAgg t).run P w= .ok b w:=by
 unfold ke at h;split at h<;>first|(cases h;done)|skip
 ·rename_i fs e;injection h with h;subst h;simp[isAgg,aR e]
 ·rename_i n m e;injection h with h;subst h;simp[isAgg,aR e]
 ·rename_i d h1 h2 e;injection h with h;subst h
  simp only[isAgg,Sem.run_bind,aR e,Result.andThen_ok];cases d<;>first|rfl|(exact absurd e<|h1 _)|(exact absurd e<|h2 _ _)
end
theorem Addr.hQ(b o j:Nat):(Addr.mk b o none).add j=⟨b,o+j,none⟩:=by
 unfold Addr.add;by_cases q:j=0
 ·subst q;simp
 ·rw[if_neg q]
def cU(P:Program)(B:aC)(ρ:ah)(s s1:AS)(w:World)(x:AV)(c:Sem Next):Prop:=∃σ w' nv,Ext s.nx s1.nx ρ σ/\c.run P w= .ok nv w'/\(match nv with| .value v=>VR σ x v| .skip=>x=iI|_=>False)/\Rel B σ s1.h w'/\bh B w w'
def dT(P:Program)(B:aC)(ρ:ah)(s s1:AS)(w:World)(x:AV)(c:Sem Value):Prop:=∃σ w' v,Ext s.nx s1.nx ρ σ/\c.run P w= .ok v w'/\VR σ x v/\Rel B σ s1.h w'/\bh B w w'
theorem dT.op{P:Program}{B:aC}{ρ:ah}{s s1:AS}{w:World}{x:AV}{c:Sem Value}(h:dT P B ρ s s1 w x c):cU P B ρ s s1 w x (do pure (.value<|←c)):=by obtain⟨σ,w',v,a,b,d,e,f⟩:=h;exact⟨σ,w',.value v,a,by simp[b],d,e,f⟩
section
variable {P:Program} {B:aC} {ρ:ah} {w:World} {s s1:AS}
theorem ES{t:TypeId}{n off:Nat}{x:AV}{b N:Nat}(fi:aO s)(r:Rel B ρ s.h w)(h:loadVar P t n off s= .ok x s1)(hn:ρ n=some (b,N)):
 s1.h=s.h/\s1.nx=s.nx/\∃v,(Go.loadVar t ⟨b,off,none⟩).run P w= .ok v w/\VR ρ x v:=by
 unfold loadVar at h;obtain⟨ag,h1,h2⟩:=aX h;cases ag with
 |true=>
  obtain⟨k,h3,h4⟩:=aX h2;obtain⟨l,s2,h5,h6⟩:=M.aI h4;obtain⟨rfl,rfl⟩:=aM h6;obtain⟨a1,a2,a3,a4,vs,a5,a6,_⟩:=mG (P:=P) fi r h5 hn;refine⟨a1,a2,.agg vs.toArray,?_,?_⟩
  ·simp[Go.loadVar,qf h1,cP h3,a5]
  ·simp only[VR];exact⟨_,rfl,by simpa using a6⟩
 |false=>
  obtain⟨l,s2,h5,h6⟩:=M.aI h2;obtain⟨q,rfl⟩:=de h6;obtain⟨a1,a2,a3,a4,vs,a5,a6,a7⟩:=mG (P:=P) fi r h5 hn;unfold one at q;split at q
  ·rename_i y;injection q with q;subst q
   simp only[aq] at a6;obtain⟨v,ys,rfl,hv,rfl⟩:=a6;have hc:=a7 0 v rfl;refine⟨a1,a2,v,?_,hv⟩;simp only[Go.loadVar,Sem.run_bind,qf h1,Result.andThen_ok];simp[show w.cell? ⟨b,off,none⟩=some v from by simpa using hc]
  ·cases q
theorem J8{t:TypeId}{n off:Nat}{x:AV}{b sh:Nat}(fi:aO s)(r:Rel B ρ s.h w)(h:nR P t n off s= .ok x s1)(hn:ρ n=some (b,sh)):
 s1.h=s.h/\s1.nx=s.nx/\∃v,(Go.loadVar t ⟨b,sh+off,none⟩).run P w= .ok v w/\VR ρ x v:=by
 unfold nR at h;obtain⟨ag,h1,h2⟩:=aX h;cases ag with
 |true=>cases h2
 |false=>
  obtain⟨ob,s2,h3,h4⟩:=M.aI h2;obtain⟨hx,hg,hh,bj⟩:=dW h3;have ht:n<top:=Nat.lt_of_lt_of_le hx fi.nx;obtain⟨o',hb,hO,_⟩:=r.block ht hg hn;cases ob with
  |lV m tr=>
   obtain⟨q1,q2⟩:=bM h4;obtain⟨q3,rfl⟩:=de q2;have aS:off<m:=by rw[←blt_eq];exact q1
   obtain⟨c,e,fr,rfl,row⟩:=hO;obtain⟨y,v,g1,g2,g3,g4⟩:=row off aS;rw[q3] at g1;injection g1 with g1;subst g1
   refine⟨hh,bj,v,?_,g4⟩;have hc:w.cell? ⟨b,sh+off,none⟩=some v:=by simp only[World.cell?,hb];exact g3
   simp only[Go.loadVar,Sem.run_bind,qf h1,Result.andThen_ok];simp[hc]
  |_=>cases h4
def qV(B:aC)(Sy:aD):Prop:=∀(n o k:Nat) (x:AV) (s s1:AS) (ρ:ah) (w:World),aO s->Rel B ρ s.h w->Sy (.row n o k) [] s= .ok x s1->s1.h=s.h/\s1.nx=s.nx/\∀b sh,ρ (hn n b sh)≠none->∃l vs,x= .agg l/\vs.length=k/\aq ρ l vs/\∃c e fr,w.heap[b]? =some (.cells c e fr)/\∀(j:Nat) (v:Value),vs[j]? =some v->c[sh+o+j]? =some v
theorem Ky{t:TypeId}{n off:Nat}{x:AV}{b sh:Nat}{Sy:aD}(dB:qV B Sy)(fi:aO s)(r:Rel B ρ s.h w)(h:mP P t Sy n off s= .ok x s1)(hn:ρ (hn n b sh)≠none):
 s1.h=s.h/\s1.nx=s.nx/\∃v,(Go.loadVar t ⟨b,sh+off,none⟩).run P w= .ok v w/\VR ρ x v:=by
 unfold mP at h;obtain⟨ag,h1,h2⟩:=aX h;obtain⟨k,h3,h4⟩:=aX h2;obtain⟨y,s2,h5,h6⟩:=M.aI h4;obtain⟨a1,a2,dB⟩:=dB _ _ _ _ _ _ _ _ fi r h5;obtain⟨l,vs,rfl,a3,a5,c,e,fr,a6,a7⟩:=dB b sh hn;have jt:∀(j:Nat) (v:Value),vs[j]? =some v->w.cell? ⟨b,sh+off+j,none⟩=some v:=fun j v hj=>by simp only[World.cell?,a6];exact a7 j v hj
 cases ag with
 |true=>
  obtain⟨rfl,rfl⟩:=aM h6;have vV:=yC (P:=P) (w:=w) a6 a7;rw[a3] at vV;refine⟨a1,a2,.agg vs.toArray,?_,?_⟩
  ·simp[Go.loadVar,qf h1,cP h3,vV]
  ·simp only[VR];exact⟨_,rfl,by simpa using a5⟩
 |false=>
  obtain⟨q,rfl⟩:=de h6;unfold one at q;split at q
  ·rename_i y;injection q with q;subst q
   simp only[aq] at a5;obtain⟨v,ys,rfl,hv,rfl⟩:=a5;have hc:=jt 0 v rfl;refine⟨a1,a2,v,?_,hv⟩;simp only[Go.loadVar,Sem.run_bind,qf h1,Result.andThen_ok];simp[show w.cell? ⟨b,sh+off,none⟩=some v from by simpa using hc]
  ·cases q
theorem JV{t:TypeId}{n off:Nat}{x:AV}{v:Value}{u:Unit}{b N:Nat}(fi:aO s)(r:Rel B ρ s.h w)(h:storeVar P t n off x s= .ok u s1)(hn:ρ n=some (b,N))(hv:VR ρ x v):
 s1.nx=s.nx/\∃w',(Go.storeVar t ⟨b,off,none⟩ v).run P w= .ok () w'/\Rel B ρ s1.h w'/\bh B w w':=by
 unfold storeVar at h;obtain⟨k,h1,h2⟩:=aX h;obtain⟨h3,h4⟩:=bM h2;obtain⟨a1,w',a2,a3,a4⟩:=xW (P:=P) fi r h4 hn hv.cells;refine⟨a1,w',?_,a3,a4⟩;have hk:v.cells.size=k:=by have:=hv.cells.length;rw[cj.1 h3] at this;simpa using this.symm
 simp[Go.storeVar,cP h1,hk,a2]
theorem Fi{x:AV}{v:Value}{n:Nat}(e:TypeId)(r:Rel B ρ s.h w)(hf:bH s.nx s1.nx ρ)(h:newRow x.cells s= .ok n s1)(hv:VR ρ x v):
 ∃σ w' b N,Ext s.nx s1.nx ρ σ/\(Go.newVar e v).run P w= .ok ⟨b,0,none⟩ w'/\σ n=some (b,N)/\Rel B σ s1.h w'/\bh B w w':=by
 obtain⟨rfl,h1,σ,h2,h3,h4,h5⟩:=AY (P:=P) e [] r hf h hv.cells;refine⟨σ,_,_,_,h2,?_,h3,h5,(dj.alloc w _).below r.size⟩;have:(v.cells.toList++[]).toArray=v.cells:=by simp
 rw[this] at h4 ⊢;exact h4
end
theorem VR.tq{ρ:ah}{x:AV}{v:Value}{i:Int}(h:VR ρ x v)(hi:intOf x=some i):∃k,x= .int k i/\v= .int k i:=by
 cases x<;>simp only[intOf] at hi<;>first|(cases hi;done)|skip
 rename_i k n;injection hi with hi;subst hi
 simp only[VR] at h;exact⟨k,rfl,h⟩
theorem VR.Gq{ρ:ah}{x:AV}{v:Value}{b:Bool}(h:VR ρ x v)(hi:vN x=some b):v= .bool b:=by
 cases x<;>simp only[vN] at hi<;>first|(cases hi;done)|skip
 injection hi with hi;subst hi
 simp only[VR] at h;exact h
theorem VR.By{ρ:ah}{x:AV}{v:Value}{a:Nat×Nat}(h:VR ρ x v)(hi:addrOf x=some a):∃b N,ρ a.1=some (b,N)/\v= .pointer (some ⟨b,a.2,none⟩):=by
 unfold addrOf at hi;split at hi
 ·injection hi with hi;subst hi
  rename_i a;obtain⟨n,o⟩:=a;simp only[VR] at h;exact h
 ·cases hi
section
variable {P:Program} {B:aC} {ρ:ah} {w:World} {s s1:AS} {x:AV} {Sy:aD} {t:Tr AV} {ev:Operand->Value} {o:Oper}
theorem FL{y:Operand}(he:∀x v,ak t x=some v->VR ρ v (ev x))(r:Rel B ρ s.h w)(h:mW y Sy t s= .ok x s1)(ho:o.op= .move y\/o.op= .assign y):cU P B ρ s s1 w x<|execOp ev o:=by obtain⟨h1,rfl⟩:=de (show lift (ak t y) s= .ok x s1 from h);refine⟨ρ,w,.value<|ev y,Ext.refl _ _ _,?_,he y x h1,r,bh.refl _ _⟩;rcases ho with ho|ho<;>simp[execOp,ho]
theorem Lu{c a b:Operand}(he:∀x v,ak t x=some v->VR ρ v (ev x))(r:Rel B ρ s.h w)(h:rb c a b Sy t s= .ok x s1)(ho:o.op= .pick c a b):cU P B ρ s s1 w x<|execOp ev o:=by
 unfold rb at h;obtain⟨v,h1,h2⟩:=aX h;obtain⟨q,h3,h4⟩:=aX h2;obtain⟨va,h5,h6⟩:=aX h4;obtain⟨vb,h7,h8⟩:=aX h6;have hc:=(he c v h1).Gq h3;cases q with
 |true=>obtain⟨rfl,rfl⟩:=aM h8;exact⟨ρ,w,.value<|ev a,Ext.refl _ _ _,by simp[execOp,ho,hc,asBool],he a _ h5,r,bh.refl _ _⟩
 |false=>obtain⟨rfl,rfl⟩:=aM h8;exact⟨ρ,w,.value<|ev b,Ext.refl _ _ _,by simp[execOp,ho,hc,asBool],he b _ h7,r,bh.refl _ _⟩
theorem Kz{e:TypeId}(r:Rel B ρ s.h w)(hf:bH s.nx s1.nx ρ)(h:y9 P e Sy t s= .ok x s1)(ho:o.op= .alloc e):cU P B ρ s s1 w x<|execOp ev o:=by
 unfold y9 at h;obtain⟨z,h1,h2⟩:=aX h;obtain⟨n,s2,h3,h4⟩:=M.aI h2;obtain⟨rfl,rfl⟩:=aM h4;obtain⟨v,h5,h6⟩:=qh (P:=P) (w:=w) ρ h1;obtain⟨σ,w',b,N,a1,a2,a3,a4,a5⟩:=Fi (P:=P) e r hf h3 h6;refine⟨σ,w',.value<|.pointer<|some ⟨b,0,none⟩,a1,?_,?_,a4,a5⟩
 ·simp[execOp,ho,Instr.alloc,h5,a2]
 ·simp only[VR];exact⟨b,N,a3,rfl⟩
theorem Mr{e:TypeId}{y:Operand}(he:∀x v,ak t x=some v->VR ρ v (ev x))(r:Rel B ρ s.h w)(hf:bH s.nx s1.nx ρ)(h:ru y Sy t s= .ok x s1)(ho:o.op= .box e y):cU P B ρ s s1 w x<|execOp ev o:=by
 unfold ru at h;obtain⟨z,h1,h2⟩:=aX h;obtain⟨n,s2,h3,h4⟩:=M.aI h2;obtain⟨rfl,rfl⟩:=aM h4;obtain⟨σ,w',b,N,a1,a2,a3,a4,a5⟩:=Fi (P:=P) e r hf h3<|he y z h1;refine⟨σ,w',.value<|.pointer<|some ⟨b,0,none⟩,a1,?_,?_,a4,a5⟩
 ·simp[execOp,ho,Instr.box,a2]
 ·simp only[VR];exact⟨b,N,a3,rfl⟩
theorem Lv{ty:TypeId}{a:Operand}(dB:qV B Sy)(he:∀x v,ak t x=some v->VR ρ v (ev x))(fi:aO s)(r:Rel B ρ s.h w)(h:lW P ty a Sy t s= .ok x s1)(ho:o.op= .load ty a):cU P B ρ s s1 w x<|execOp ev o:=by
 unfold lW at h;obtain⟨v,h1,h2⟩:=aX h;unfold loadAt at h2;split at h2
 ·rename_i n q;have hv:=he a _ h1;simp only[VR] at hv;obtain⟨b,sh,h5,h6⟩:=hv;have main:s1.h=s.h/\s1.nx=s.nx/\∃v,(Go.loadVar ty ⟨b,sh+q,none⟩).run P w= .ok v w/\VR ρ x v:=by
   cases hb:Nat.ble top n with
   |true=>rw[hb] at h2;exact Ky dB fi r h2<|h5.high<|aL.1 hb
   |false=>rw[hb] at h2;exact J8 (P:=P) fi r h2 (h5.low fun q=>by rw[aL.2 q] at hb;cases hb)
  obtain⟨a1,a2,u,a3,a4⟩:=main;refine⟨ρ,w,.value u,Ext.refl _ _ _,?_,a4,by rw[a1];exact r,bh.refl _ _⟩;simp[execOp,ho,Instr.loadAt,Instr.sureAddr,h6,a3]
 ·obtain⟨ad,h3,h4⟩:=aX h2;obtain⟨b,N,h5,h6⟩:=(he a v h1).By h3;obtain⟨a1,a2,u,a3,a4⟩:=ES (P:=P) fi r h4 h5;refine⟨ρ,w,.value u,Ext.refl _ _ _,?_,a4,by rw[a1];exact r,bh.refl _ _⟩;simp[execOp,ho,Instr.loadAt,Instr.sureAddr,h6,a3]
theorem KG{ty:TypeId}{a y:Operand}(he:∀x v,ak t x=some v->VR ρ v (ev x))(fi:aO s)(r:Rel B ρ s.h w)(h:nU P ty a y Sy t s= .ok x s1)(ho:o.op= .store ty a y):cU P B ρ s s1 w x<|execOp ev o:=by unfold nU at h;obtain⟨v,h1,h2⟩:=aX h;obtain⟨ad,h3,h4⟩:=aX h2;obtain⟨z,h5,h6⟩:=aX h4;obtain⟨u,s2,h7,h8⟩:=M.aI h6;obtain⟨rfl,rfl⟩:=aM h8;obtain⟨b,N,h9,dF⟩:=(he a v h1).By h3;obtain⟨a1,w',a2,a3,a4⟩:=JV (P:=P) fi r h7 h9<|he y z h5;refine⟨ρ,w',.skip,Ext.refl _ _ _,?_,rfl,a3,a4⟩;simp[execOp,ho,Instr.storeAt,Instr.sureAddr,dF,a2]
theorem JJ{y:Operand}(he:∀x v,ak t x=some v->VR ρ v (ev x))(r:Rel B ρ s.h w)(h:qk y Sy t s= .ok x s1)(ho:o.op= .nilCheck y):cU P B ρ s s1 w x<|execOp ev o:=by
 unfold qk at h;obtain⟨v,h1,h2⟩:=aX h;obtain⟨h3,h4⟩:=bM h2;obtain⟨rfl,rfl⟩:=aM h4;have hv:=he y _ h1;refine⟨ρ,w,.value<|ev y,Ext.refl _ _ _,?_,hv,r,bh.refl _ _⟩;simp only[execOp,ho];generalize ev y=v at hv;cases x<;>(try simp only[VR] at hv)<;>(try (subst hv;first|(simp[notNil] at h3;done)|rfl))
 case ptr a=>
  cases a with
  |none=>simp[notNil] at h3
  |some a=>obtain⟨n,q⟩:=a;simp only[VR] at hv;obtain⟨_,_,_,rfl⟩:=hv;rfl
 case b9 n o l=>rcases hv with⟨_,_,_,_,rfl,_⟩|⟨_,_,_,_,rfl,_⟩<;>rfl
 case jx n o=>obtain⟨_,_,_,rfl⟩:=hv;rfl
 case slice a len cap=>
  have:∃p q r,v= .slice p q r:=by
   cases a with
   |none=>cases cap<;>simp only[VR] at hv;exact⟨_,_,_,hv.1⟩
   |some a=>
    obtain⟨n,q⟩:=a;cases cap<;>simp only[VR] at hv
    ·obtain⟨_,_,_,rfl⟩:=hv;exact⟨_,_,_,rfl⟩
    ·obtain⟨_,_,_,_,rfl,_⟩:=hv;exact⟨_,_,_,rfl⟩
    ·obtain⟨_,_,_,_,_,_,rfl⟩:=hv;exact⟨_,_,_,rfl⟩
  obtain⟨_,_,_,rfl⟩:=this;rfl
 case map a=>
  cases a with
  |none=>simp only[VR] at hv;subst hv;rfl
  |some a=>simp only[VR] at hv;obtain⟨_,_,_,rfl⟩:=hv;rfl
 case func fn f c=>obtain⟨_,_,_,rfl,_⟩:=hv;cases fn<;>first|rfl|(simp[notNil] at h3)
 case yield l=>obtain⟨_,_,_,rfl⟩:=hv;rfl
 case iface ty y=>obtain⟨_,rfl,_⟩:=hv;rfl
 case agg l=>obtain⟨_,rfl,_⟩:=hv;rfl
 case tuple l=>obtain⟨_,rfl,_⟩:=hv;rfl
end
end Go.Rn
namespace Go.Rn
open Go.RowKit
theorem aq.set{ρ:ah}:∀{x:List AV} {v:List Value} {i:Nat} {a:AV} {b:Value},aq ρ x v->VR ρ a b->aq ρ (x.set i a) (v.set i b)
 |[],_,_,_,_,h,_=>by simp only[aq] at h;subst h;simp[aq]
 |y::ys,_,0,_,_,h,k=>by simp only[aq] at h;obtain⟨z,zs,rfl,p,q⟩:=h;simp only[List.set_cons_zero,aq];exact⟨_,_,rfl,k,q⟩
 |y::ys,_,i+1,_,_,h,k=>by simp only[aq] at h;obtain⟨z,zs,rfl,p,q⟩:=h;simp only[List.set_cons_succ,aq];exact⟨_,_,rfl,p,q.set k⟩
def wt:List Value->List Value->Nat->List Value
 |cs,[],_=>cs
 |cs,c::l,off=>wt (cs.set off c) l<|off+1
theorem ED{ρ:ah}:∀{l:List AV} {vs:List Value} {cs:List AV} {ds:List Value} {off:Nat},aq ρ l vs->aq ρ cs ds->aq ρ (vp cs l off) (wt ds vs off)
 |[],_,_,_,_,h,k=>by simp only[aq] at h;subst h;exact k
 |x::l,_,cs,ds,off,h,k=>by simp only[aq] at h;obtain⟨y,ys,rfl,p,q⟩:=h;show aq ρ (vp (cs.set off x) l<|off+1)<|wt (ds.set off y) ys<|off+1;exact ED (l:=l) q<|k.set p
theorem FM(off:Nat):∀(l:List Value) (k:Nat) (cs:Array Value),
 ((l.zipIdx k).foldl (fun(cs:Array Value) (x:Value×Nat)=>cs.setIfInBounds (off+x.2) x.1) cs).toList=wt cs.toList l (off+k)
 |[],k,cs=>rfl
 |c::l,k,cs=>by simp only[List.zipIdx_cons,List.foldl_cons,wt];rw[FM off l (k+1) _];simp[Nat.add_assoc]
def nq(ρ:ah):List (Nat×AV)->List (Nat×Value)->Prop
 |[],l=>l=[]
 |x::xs,l=>∃y ys,l=y::ys/\x.1=y.1/\VR ρ x.2 y.2/\nq ρ xs ys
theorem Ba{ρ:ah}{ev:Operand->Option AV}{ec:Operand->Value}(he:∀x v,ev x=some v->VR ρ v (ec x)):∀{l:List<|Nat×Operand} {vs:List<|Nat×AV},mV ev l=some vs->nq ρ vs (l.map fun(i,x)=>(i,ec x))
 |[],vs,h=>by simp only[mV] at h;injection h with h;subst h;simp only[nq,List.map_nil]
 |(i,x)::l,vs,h=>by
  simp only[mV] at h;cases e:ev x with
  |none=>rw[e] at h;cases h
  |some y=>
   simp only[e] at h;cases e2:mV ev l with
   |none=>simp only[e2] at h;cases h
   |some r=>
    simp only[e2] at h;injection h with h;subst h
    simp only[nq,List.map_cons];exact⟨_,_,rfl,rfl,he x y e,Ba he e2⟩
theorem yD{ρ:ah}{place:Nat->Option (Nat×Nat)}:∀{ps:List<|Nat×AV} {qs:List<|Nat×Value} {cs l:List AV} {ds:Array Value},nq ρ ps qs->aq ρ cs ds.toList->nT place cs ps=some l->
 ∃es,Instr.fill place ds qs=some es/\aq ρ l es.toList
 |[],qs,cs,l,ds,h,k,e=>by
  simp only[nq] at h;subst h;simp only[nT] at e;injection e with e;subst e
  exact⟨ds,rfl,k⟩
 |(i,v)::ps,qs,cs,l,ds,h,k,e=>by
  simp only[nq] at h;obtain⟨⟨i',v'⟩,ys,rfl,hi,hv,hr⟩:=h;simp only at hi hv;subst hi;simp only[nT] at e;cases e1:place i with
  |none=>simp only[e1] at e;cases e
  |some p=>
   obtain⟨off,size⟩:=p;simp only[e1] at e;cases e2:(Nat.beq v.cells.length size&&Nat.ble (off+v.cells.length) cs.length) with
   |false=>simp only[e2] at e;cases e
   |true=>
    simp only[e2] at e;obtain⟨a,b⟩:=and_true.1 e2;have a:=cj.1 a;have b:=aL.1 b;have hc:=hv.cells;have l1:=hc.length;have l2:=k.length;simp only[Array.length_toList] at l1 l2;have wu:aq ρ (vp cs v.cells off) (v'.cells.zipIdx.foldl (fun(cs:Array Value) (x:Value×Nat)=>cs.setIfInBounds (off+x.2) x.1) ds).toList:=by rw[←Array.foldl_toList,Array.toList_zipIdx,FM off _ 0 ds];exact ED hc k
    obtain⟨es,g1,g2⟩:=yD hr wu e;refine⟨es,?_,g2⟩;simp only[Instr.fill,e1];rw[if_neg (by simp;omega)];exact g1
theorem ET{P:Program}:∀{fs:List Field} {pl:List<|Nat×Nat},qE P fs=some pl->fs.mapM (fun f=>(P.info? f.type).map fun i=>(f.offset,i.size))=some pl
 |[],pl,h=>by simp only[qE] at h;injection h with h;subst h;rfl
 |f::fs,pl,h=>by
  simp only[qE,bW] at h;cases e:P.info? f.type with
  |none=>simp only[e] at h;cases h
  |some i=>
   simp only[e] at h;cases e2:qE P fs with
   |none=>simp only[e2] at h;cases h
   |some r=>
    simp only[e2] at h;injection h with h;subst h
    simp[List.mapM_cons,e,ET e2]
theorem KH{P:Program}(ρ:ah){t:TypeId}{z:AV}(h:eT P t=some z):∃i v,P.info? t=some i/\i.zero=some v/\VR ρ z v:=by
 unfold eT at h;cases e:P.info? t with
 |none=>rw[e] at h;cases h
 |some i=>
  simp only[e] at h;cases e2:i.zero with
  |none=>simp only[e2] at h;cases h
  |some v=>simp only[e2] at h;exact⟨i,v,rfl,e2,AN ρ h⟩
section
variable {P:Program} {B:aC} {ρ:ah} {w:World} {s s1:AS} {x:AV} {Sy:aD} {t:Tr AV} {ev:Operand->Value} {o:Oper}
theorem Lw{ty:TypeId}{ps:List<|Nat×AV}{qs:List<|Nat×Value}(hp:nq ρ ps qs)(h:build P ty ps=some x):∃cells,P.built ty qs=some cells/\VR ρ x (.agg cells):=by
 unfold build at h;cases ez:eT P ty with
 |none=>simp only[ez] at h;cases h
 |some z=>
  obtain⟨i,v,h1,h2,h3⟩:=KH ρ ez;simp only[ez] at h;cases eu:P.underlying ty with
  |none=>simp only[eu] at h;cases h
  |some d=>
   cases d<;>simp only[eu] at h<;>first|(cases h;done)|skip
   case array n e=>
    cases ek:bW P e with
    |none=>simp only[ek] at h;cases h
    |some k=>
     simp only[ek] at h;cases ef:nT (fun i=>some (i*k,k)) z.cells ps with
     |none=>simp only[ef] at h;cases h
     |some l=>
      simp only[ef] at h;injection h with h;subst h
      obtain⟨es,g1,g2⟩:=yD hp h3.cells ef;unfold bW at ek;cases ei:P.info? e with
      |none=>rw[ei] at ek;cases ek
      |some ie=>
       simp only[ei] at ek;injection ek with ek;subst ek
       refine⟨es,?_,by simp only[VR];exact⟨_,rfl,g2⟩⟩;simp only[Program.built,h1,eu,h2,ei];exact g1
   case struct fs=>
    cases ek:qE P fs.toList with
    |none=>simp only[ek] at h;cases h
    |some pl=>
     simp only[ek] at h;cases ef:nT (fun i=>pl[i]?) z.cells ps with
     |none=>simp only[ef] at h;cases h
     |some l=>
      simp only[ef] at h;injection h with h;subst h
      obtain⟨es,g1,g2⟩:=yD hp h3.cells ef;refine⟨es,?_,by simp only[VR];exact⟨_,rfl,g2⟩⟩;simp only[Program.built,h1,eu,h2,ET ek];simpa using g1
theorem KJ{ty:TypeId}{parts:Array<|Nat×Operand}(he:∀x v,ak t x=some v->VR ρ v (ev x))(r:Rel B ρ s.h w)(h:qP P ty parts.toList Sy t s= .ok x s1)(ho:o.op= .build ty parts):cU P B ρ s s1 w x<|execOp ev o:=by
 unfold qP at h;obtain⟨ps,h1,h2⟩:=aX h;obtain⟨h3,rfl⟩:=de h2;have hp:=Ba he h1;obtain⟨cells,g1,g2⟩:=Lw (P:=P) hp h3;refine⟨ρ,w,.value<|.agg cells,Ext.refl _ _ _,?_,g2,r,bh.refl _ _⟩;have oC:P.built ty (parts.map fun(i,x)=>(i,ev x)).toList=some cells:=by rw[Array.toList_map];exact g1
 simp only[execOp,ho,Sem.run_bind,run_build w ty _ cells oC,Result.andThen_ok];rfl
theorem AD{z:List AV}{vs:List Value}(h:aq ρ z vs):∀n,aq ρ (s9 n z) (List.replicate n vs).flatten
 |0=>by simp[s9,aq]
 |n+1=>by simp only[s9,List.replicate_succ,List.flatten_cons];exact h.append<|AD h n
theorem Fj{vs:List Value}:∀(n i:Nat),i<n*vs.length->(List.replicate n vs).flatten[i]? =vs[i % vs.length]?
 |0,i,h=>by omega
 |n+1,i,h=>by
  rw[List.replicate_succ,List.flatten_cons];by_cases q:i<vs.length
  ·rw[List.getElem?_append_left q,Nat.mod_eq_of_lt q]
  ·have hs:(n+1)*vs.length=n*vs.length+vs.length:=by rw[Nat.succ_mul]
   rw[List.getElem?_append_right (by omega),Fj n _<|by omega];rw[←Nat.mod_eq_sub_mod (by omega)]
theorem Fk{zs:Array Value}{n:Nat}:(Array.range<|n*zs.size).map (fun i=>zs[i % zs.size]!)=(List.replicate n zs.toList).flatten.toArray:=by
 apply Array.ext_getElem?;intro i;have hlen:(List.replicate n zs.toList).flatten.length=n*zs.size:=by simp
 by_cases q:i<n*zs.size
 ·have hz:0<zs.size:=by
   rcases Nat.eq_zero_or_pos zs.size with h0|h0
   ·rw[h0] at q;omega
   ·exact h0
  have hm:i % zs.size<zs.size:=Nat.mod_lt _ hz;have hr:(List.replicate n zs.toList).flatten.toArray[i]? =zs.toList[i % zs.toList.length]? :=by rw[List.getElem?_toArray];exact Fj n i (by rw[Array.length_toList];exact q)
  rw[hr];simp[q,getElem!_pos zs (i % zs.size) hm,Array.getElem?_eq_getElem hm]
 ·have hr:(List.replicate n zs.toList).flatten.toArray[i]? =none:=by rw[List.getElem?_toArray];exact List.getElem?_eq_none (by rw[hlen];omega)
  rw[hr,Array.getElem?_eq_none (by simp;omega)]
theorem JD{ty:TypeId}{len:Nat}{ps:List<|Nat×AV}{qs:Array<|Nat×Value}(hp:nq ρ ps qs.toList)(r:Rel B ρ s.h w)(hf:bH s.nx s1.nx ρ)(h:buildSlice P ty len ps s= .ok x s1):
 dT P B ρ s s1 w x (Instr.buildSlice ty len qs):=by
 unfold buildSlice at h;cases eu:P.underlying ty with
 |none=>simp only[eu] at h;cases h
 |some d=>
  cases d<;>simp only[eu] at h<;>first|(cases h;done)|skip
  rename_i e;simp only[bind_eq,Nj] at h;obtain⟨k,s2,h1,h2⟩:=M.aI h;obtain⟨oG,rfl⟩:=de h1;obtain⟨z,s3,h3,h4⟩:=M.aI h2;obtain⟨dJ,rfl⟩:=de h3;obtain⟨u,s4,h5,h6⟩:=M.aI h4;have kq:(Nat.ble (len*k) 1048576&&Nat.beq z.cells.length k)=true/\s4=s3:=by
   cases hb:(Nat.ble (len*k) 1048576&&Nat.beq z.cells.length k) with
   |false=>rw[hb] at h5;cases h5
   |true=>rw[hb] at h5;cases h5;exact⟨rfl,rfl⟩
  obtain⟨kq,rfl⟩:=kq;obtain⟨l,s5,h7,h8⟩:=M.aI h6;obtain⟨rR,rfl⟩:=de h7;obtain⟨n,s6,h9,dF⟩:=M.aI h8;obtain⟨rfl,rfl⟩:=aM dF;obtain⟨a,b⟩:=and_true.1 kq;have a:=aL.1 a;have b:=cj.1 b;obtain⟨vz,g1,g2⟩:=qh (P:=P) (w:=w) ρ dJ;have hlen:=g2.cells.length;simp only[Array.length_toList] at hlen;have pj:(Array.range<|len*k).map (fun i=>(if len*k=0 then(#[]:Array Value) else vz.cells)[i % (if len*k=0 then(#[]:Array Value) else vz.cells).size]!)=(List.replicate len vz.cells.toList).flatten.toArray:=by
   by_cases q:len*k=0
   ·rw[q];have:(List.replicate len vz.cells.toList).flatten=[]:=by
     apply List.length_eq_zero_iff.1;have e1:(List.replicate len vz.cells.toList).flatten.length=len*vz.cells.size:=by simp
     rw[e1, ←hlen,b];exact q
    simp[this]
   ·simp only[if_neg q];have:k=vz.cells.size:=by omega
    subst this;exact Fk
  obtain⟨es,f1,f2⟩:=yD (ds:=(List.replicate len vz.cells.toList).flatten.toArray) hp (by simpa using AD g2.cells len) rR;obtain⟨rfl,n1,σ,e1,e2,e3,e4⟩:=AY (P:=P) e [] r hf h9 f2;refine⟨σ,_,.slice (some ⟨w.heap.size,0,none⟩) len len,e1,?_,?_,e4,(dj.alloc w _).below r.size⟩
  ·have QM:(es.toList++[]).toArray=es:=by simp
   rw[QM] at e3 e4 ⊢;have DD:¬(len*k>2 ^ 24):=by omega
   simp only[Instr.buildSlice,Sem.run_bind,aR eu,Result.andThen_ok,cP oG];rw[if_neg DD];by_cases q:len*k=0
   ·rw[if_pos q];simp only[if_pos q] at pj;simp only[Sem.run_bind,Sem.run_pure,Result.andThen_ok,pj,f1,e3]
   ·rw[if_neg q];simp only[if_neg q] at pj;simp only[Sem.run_bind,Sem.run_pure,Result.andThen_ok,g1,pj,f1,e3]
  ·simp only[VR];exact⟨_,_,e2,rfl⟩
theorem JB{ty:TypeId}{len:Nat}{parts:Array<|Nat×Operand}(he:∀x v,ak t x=some v->VR ρ v (ev x))(r:Rel B ρ s.h w)(hf:bH s.nx s1.nx ρ)(h:qg P ty len parts.toList Sy t s= .ok x s1)(ho:o.op= .buildSlice ty len parts):cU P B ρ s s1 w x<|execOp ev o:=by
 unfold qg at h;obtain⟨ps,h1,h2⟩:=aX h;have hp:nq ρ ps (parts.map fun(i,x)=>(i,ev x)).toList:=by rw[Array.toList_map];exact Ba he h1
 have:=(JD (P:=P) hp r hf h2).op;simpa only[execOp,ho] using this
end
end Go.Rn
namespace Go.Rn
open Go.RowKit
section
variable {P:Program} {B:aC} {ρ:ah} {w:World} {s s1:AS} {x:AV} {Sy:aD} {t:Tr AV} {ev:Operand->Value} {o:Oper}
theorem qo{ty:TypeId}{cs:List AV}{ds:Array Value}{off:Nat}(hc:aq ρ cs ds.toList)(h:ia P ty cs off=some x):∃v,(part ty ds off).run P w= .ok v w/\VR ρ x v:=by
 unfold ia at h;cases ea:ke P ty with
 |none=>simp only[ea] at h;cases h
 |some b=>
  simp only[ea] at h;cases b with
  |true=>
   cases ek:bW P ty with
   |none=>simp only[ek] at h;cases h
   |some k=>
    simp only[ek] at h;injection h with h;subst h
    refine⟨.agg<|ds.extract off<|off+k,?_,?_⟩
    ·simp[part,qf ea,cP ek]
    ·simp only[VR];refine⟨_,rfl,?_⟩;have:(ds.extract off<|off+k).toList=(ds.toList.drop off).take k:=by simp[List.extract]
     rw[this];exact(hc.drop off).take k
  |false=>
   obtain⟨v,hv,hr⟩:=hc.get off x h;refine⟨v,?_,hr⟩;have jG:ds[off]? =some v:=by simpa using hv
   simp[part,qf ea,jG]
theorem bytes_beq(a b:ByteArray):(a == b)=(a.toList == b.toList):=beq_toListBytes a b
theorem AE{d:Nat}{eq:TypeId->AV->AV->Option Bool}(he:∀ty a b c v u,eq ty a b=some c->VR ρ a v->VR ρ b u->(Op.equalIn d ty v u).run P w= .ok c w){xs ys:List AV}{cs ds:Array Value}(hx:aq ρ xs cs.toList)(hy:aq ρ ys ds.toList):∀{fs:List Field} {b:Bool},eqFields P eq xs ys fs=some b->(Op.eqFields d cs ds fs).run P w= .ok b w
 |[],b,h=>by simp only[eqFields] at h;injection h with h;subst h;rfl
 |f::fs,b,h=>by
  simp only[eqFields] at h;cases en:(f.name == "_") with
  |true=>
   simp only[en] at h;have:¬(f.name≠ "_"):=by simpa using en
   rw[Op.eqFields,if_neg this];exact AE he hx hy h
  |false=>
   simp only[en] at h;have bO:f.name≠ "_" :=by intro e;rw[e] at en;simp at en
   rw[Op.eqFields,if_pos bO];cases e1:ia P f.type xs f.offset with
   |none=>simp only[e1] at h;cases h
   |some a=>
    cases e2:ia P f.type ys f.offset with
    |none=>simp only[e1,e2] at h;cases h
    |some c=>
     simp only[e1,e2] at h;obtain⟨v,g1,g2⟩:=qo (w:=w) hx e1;obtain⟨u,g3,g4⟩:=qo (w:=w) hy e2;cases e3:eq f.type a c with
     |none=>simp only[e3] at h;cases h
     |some q=>
      simp only[e3] at h;have g5:=he _ _ _ _ _ _ e3 g2 g4;cases q with
      |false=>injection h with h;subst h;simp[g1,g3,g5]
      |true=>simp only[] at h;simp[g1,g3,g5,AE he hx hy h]
theorem EU{d:Nat}{eq:TypeId->AV->AV->Option Bool}(he:∀ty a b c v u,eq ty a b=some c->VR ρ a v->VR ρ b u->(Op.equalIn d ty v u).run P w= .ok c w){ty:TypeId}{k:Nat}{xs ys:List AV}{cs ds:Array Value}(hx:aq ρ xs cs.toList)(hy:aq ρ ys ds.toList):∀{n i:Nat} {b:Bool},vF P eq ty k xs ys n i=some b->
 ((forIn (List.range' i n 1) (none,PUnit.unit) (fun j (_:Option Bool×PUnit)=>do
  let a ←part ty cs (j*k);let c ←part ty ds (j*k);let r ←Op.equalIn d ty a c
  if(!r)=true then pure (ForInStep.done (some false,PUnit.unit)) else pure (ForInStep.yield (none,PUnit.unit)))):Sem<|Option Bool×PUnit).run P w= .ok (if b then none else some false,PUnit.unit) w
 |0,i,b,h=>by simp only[vF] at h;injection h with h;subst h;rfl
 |n+1,i,b,h=>by
  simp only[vF] at h;cases e1:ia P ty xs (i*k) with
  |none=>simp only[e1] at h;cases h
  |some a=>
   cases e2:ia P ty ys (i*k) with
   |none=>simp only[e1,e2] at h;cases h
   |some c=>
    simp only[e1,e2] at h;obtain⟨v,g1,g2⟩:=qo (w:=w) hx e1;obtain⟨u,g3,g4⟩:=qo (w:=w) hy e2;cases e3:eq ty a c with
    |none=>simp only[e3] at h;cases h
    |some q=>
     simp only[e3] at h;have g5:=he _ _ _ _ _ _ e3 g2 g4;rw[List.range'_succ,List.forIn_cons];cases q with
     |false=>injection h with h;subst h;simp[g1,g3,g5]
     |true=>have ih:=EU he hx hy (n:=n) (i:=i+1) h;simp only[Sem.run_bind,g1,Result.andThen_ok,g3,g5,Bool.not_true,Bool.false_eq_true,if_false,Sem.run_pure];exact ih
theorem vH:∀{d:Nat} {ty:TypeId} {a b:AV} {c:Bool} {v u:Value},fZ P d ty a b=some c->VR ρ a v->VR ρ b u->(Op.equalIn d ty v u).run P w= .ok c w
 |0,_,_,_,_,_,_,h,_,_=>by simp only[fZ] at h;cases h
 |d+1,ty,a,b,c,v,u,h,ha,hb=>by
  simp only[fZ] at h;split at h<;>first|(cases h;done)|skip
  ·rename_i p q eu;injection h with h;subst h;simp only[VR] at ha hb;subst ha;subst hb
   simp[Op.equalIn,aR eu]
  ·rename_i k0 k p k' q eu;simp only[VR] at ha hb;subst ha;subst hb;cases hk:decide (k=k') with
   |false=>rw[hk] at h;cases h
   |true=>rw[hk] at h;injection h with h;subst h;simp[Op.equalIn,aR eu,of_decide_eq_true hk]
  ·rename_i p q eu;injection h with h;subst h;simp only[VR] at ha hb;subst ha;subst hb
   simp[Op.equalIn,aR eu]
  ·rename_i e q eu;injection h with h;subst h;simp only[VR] at ha;subst ha
   cases q with
   |none=>simp only[VR] at hb;subst hb;simp[Op.equalIn,aR eu]
   |some q=>obtain⟨n,i⟩:=q;simp only[VR] at hb;obtain⟨_,_,_,rfl⟩:=hb;simp[Op.equalIn,aR eu]
  ·rename_i e q eu;injection h with h;subst h;simp only[VR] at hb;subst hb
   obtain⟨n,i⟩:=q;simp only[VR] at ha;obtain⟨_,_,_,rfl⟩:=ha;simp[Op.equalIn,aR eu]
  ·rename_i ms eu;injection h with h;subst h;simp only[VR] at ha hb;subst ha;subst hb;simp[Op.equalIn,aR eu]
  ·rename_i ms t1 v1 eu;injection h with h;subst h;simp only[VR] at ha hb;subst ha;obtain⟨_,rfl,_⟩:=hb;simp[Op.equalIn,aR eu]
  ·rename_i ms t1 v1 eu;injection h with h;subst h;simp only[VR] at ha hb;subst hb;obtain⟨_,rfl,_⟩:=ha;simp[Op.equalIn,aR eu]
  ·rename_i fs xs ys eu;cases hs:P.stoodInHeld ty with
   |true=>rw[hs] at h;cases h
   |false=>
    rw[hs] at h;simp only[VR] at ha hb;obtain⟨cs,rfl,hx⟩:=ha;obtain⟨ds,rfl,hy⟩:=hb;have hf:P.fieldsOf ty=fs:=by simp[Program.fieldsOf,eu]
    rw[run_equalIn_struct w d ty cs ds (by rw[hf];exact eu) hs,hf];exact AE (fun ty a b c v u e p q=>vH e p q) hx hy h
  ·rename_i n e xs ys eu;cases ek:bW P e with
   |none=>simp only[ek] at h;cases h
   |some k=>simp only[ek] at h;simp only[VR] at ha hb;obtain⟨cs,rfl,hx⟩:=ha;obtain⟨ds,rfl,hy⟩:=hb;have:=EU (P:=P) (w:=w) (d:=d) (fun ty a b c v u e p q=>vH e p q) (ty:=e) (k:=k) hx hy (n:=n) (i:=0) h;simp only[Op.equalIn,Sem.run_bind,aR eu,Result.andThen_ok,cP ek];rw[Std.Legacy.Range.forIn_eq_forIn_range'];simp only[Std.Legacy.Range.size,Nat.sub_zero,Nat.add_sub_cancel,Nat.div_one];rw[this];cases c<;>rfl
  ·rename_i e l1 c1 q l2 c2 eu;injection h with h;subst h
   have:∃k l,v= .slice none k l:=by cases c1<;>simp only[VR] at ha;exact⟨_,_,ha.1⟩
   obtain⟨_,_,rfl⟩:=this;cases q with
   |none=>
    have:∃k l,u= .slice none k l:=by cases c2<;>simp only[VR] at hb;exact⟨_,_,hb.1⟩
    obtain⟨_,_,rfl⟩:=this;simp[Op.equalIn,aR eu]
   |some q=>
    obtain⟨n,i⟩:=q;have:∃p k l,u= .slice (some p) k l:=by
     cases c2<;>simp only[VR] at hb
     ·obtain⟨_,_,_,rfl⟩:=hb;exact⟨_,_,_,rfl⟩
     ·obtain⟨_,_,_,_,rfl,_⟩:=hb;exact⟨_,_,_,rfl⟩
     ·obtain⟨_,_,_,_,_,_,rfl⟩:=hb;exact⟨_,_,_,rfl⟩
    obtain⟨_,_,_,rfl⟩:=this;simp[Op.equalIn,aR eu]
  ·rename_i e q l1 c1 l2 c2 eu;injection h with h;subst h
   have:∃k l,u= .slice none k l:=by cases c2<;>simp only[VR] at hb;exact⟨_,_,hb.1⟩
   obtain⟨_,_,rfl⟩:=this;obtain⟨n,i⟩:=q;have:∃p k l,v= .slice (some p) k l:=by
    cases c1<;>simp only[VR] at ha
    ·obtain⟨_,_,_,rfl⟩:=ha;exact⟨_,_,_,rfl⟩
    ·obtain⟨_,_,_,_,rfl,_⟩:=ha;exact⟨_,_,_,rfl⟩
    ·obtain⟨_,_,_,_,_,_,rfl⟩:=ha;exact⟨_,_,_,rfl⟩
   obtain⟨_,_,_,rfl⟩:=this;simp[Op.equalIn,aR eu]
  ·rename_i e n o len l2 c2 eu;have:∃k l,u= .slice none k l:=by cases c2<;>simp only[VR] at hb;exact⟨_,_,hb.1⟩
   obtain⟨_,_,rfl⟩:=this;simp only[VR] at ha;have key:∃a k l,v= .slice a k l/\c=a.isNone:=by
    rcases ha with⟨_,rfl,a0,cc,rfl,hz⟩|⟨b,sh,cc,_,rfl,hc⟩
    ·refine⟨a0,_,_,rfl,?_⟩;unfold C4 at h;simp only at h;split at h
     ·rename_i q;injection h with h;subst h;rw[hz.2.1<|Nat.eq_of_beq_eq_true q];rfl
     ·split at h
      ·rename_i q;injection h with h;subst h
       cases a0 with
       |none=>exact absurd rfl<|hz.2.2<|Nat.eq_of_beq_eq_true q
       |some _=>rfl
      ·cases h
    ·refine⟨_,_,_,rfl,?_⟩;unfold C4 at h;split at h
     ·split at h
      ·rename_i q;have q:=Nat.eq_of_beq_eq_true q;exact absurd q (hc<|by omega).2
      ·split at h
       ·injection h with h;subst h;rfl
       ·cases h
     ·injection h with h;subst h;rfl
   obtain⟨a,_,_,rfl,rfl⟩:=key;cases a<;>simp[Op.equalIn,aR eu]
  ·rename_i k0 e0 q eu;injection h with h;subst h;simp only[VR] at ha;subst ha
   cases q with
   |none=>simp only[VR] at hb;subst hb;simp[Op.equalIn,aR eu]
   |some q=>simp only[VR] at hb;obtain⟨_,_,_,rfl⟩:=hb;simp[Op.equalIn,aR eu]
  ·rename_i k0 e0 q eu;injection h with h;subst h;simp only[VR] at ha hb;subst hb;obtain⟨_,_,_,rfl⟩:=ha;simp[Op.equalIn,aR eu]
  ·rename_i p0 r0 v0 eu;injection h with h;subst h;simp only[VR] at ha hb;subst ha;subst hb;simp[Op.equalIn,aR eu]
  ·rename_i p0 r0 v0 f1 c1 c2 eu;injection h with h;subst h;simp only[VR] at ha hb;subst ha;obtain⟨_,_,_,rfl,_⟩:=hb;simp[Op.equalIn,aR eu]
  ·rename_i p0 r0 v0 f1 c1 c2 eu;injection h with h;subst h;simp only[VR] at ha hb;subst hb;obtain⟨_,_,_,rfl,_⟩:=ha;simp[Op.equalIn,aR eu]
theorem Lx{op:BinOp}{k:IntKind}{a b:Int}(hs:kH op=false)(h:po op k a b=some x):∃v,(binOp op 0 (.int k a)<|.int k b).run P w= .ok v w/\VR ρ x v/\∀ty,binOp op ty (.int k a) (.int k b)=binOp op 0 (.int k a) (.int k b):=by
 cases op<;>simp only[po] at h<;>first
  |(cases h;done)
  |(simp[kH] at hs;done)
  |(injection h with h;subst h;exact⟨_,by simp[binOp,Op.intArith,Op.intBits,Op.intCmp];first|rfl|done,by simp[VR],fun _=>rfl⟩)
  |(cases hd:decide (b=0) with
   |true=>rw[hd] at h;cases h
   |false=>
    rw[hd] at h;injection h with h;subst h
    exact⟨_,by simp[binOp,Op.intDiv,of_decide_eq_false hd];first|rfl|done,by simp[VR],fun _=>rfl⟩)
end
end Go.Rn
namespace Go.Rn
open Go.RowKit
section
variable {P:Program} {B:aC} {ρ:ah} {w:World} {s s1:AS} {x:AV} {Sy:aD} {t:Tr AV} {ev:Operand->Value} {o:Oper}
theorem J9{op:BinOp}{k k':IntKind}{a b:Int}{ty:TypeId}(hs:kH op=true)(h:yQ op k a b=some x):∃v,(binOp op ty (.int k a)<|.int k' b).run P w= .ok v w/\VR ρ x v:=by
 unfold yQ at h;cases hd:decide (b<0) with
 |true=>rw[hd] at h;cases h
 |false=>
  rw[hd] at h;have hn:=of_decide_eq_false hd;cases op<;>simp only[kH] at hs<;>first|(cases hs;done)|skip
  ·injection h with h;subst h;exact⟨_,by simp[binOp,Op.shift,hn];first|rfl|done,by simp[VR]⟩
  ·injection h with h;subst h;exact⟨_,by simp[binOp,Op.shift,hn];first|rfl|done,by simp[VR]⟩
theorem Ly{op:BinOp}{a b:ByteArray}{ty:TypeId}(h:Cy op a b=some x):∃v,(binOp op ty (.string a)<|.string b).run P w= .ok v w/\VR ρ x v:=by
 cases op<;>simp only[Cy] at h<;>first
  |(cases h;done)
  |(injection h with h;subst h;exact⟨_,by simp[binOp,Op.stringOp];first|rfl|done,by simp[VR]⟩)
  |skip
 cases hd:Nat.ble (a.size+b.size) room with
 |false=>rw[hd] at h;cases h
 |true=>
  rw[hd] at h;injection h with h;subst h
  have hl:=aL.1 hd;unfold room at hl;refine⟨.string<|a++b,?_,by simp[VR]⟩;have:¬(((a.size+b.size:Nat):Int)>IntKind.i64.max):=by
   have:IntKind.i64.max=9223372036854775807:=by decide
   rw[this];omega
  simp only[binOp,Op.stringOp,if_neg this];rfl
theorem mI{n i len:Nat}{c:bc}{v:Value}(h:VR ρ (.slice (some (n,i)) len c) v):∃b N q k,ρ n=some (b,N)/\v= .slice (some ⟨b,q,none⟩) len k:=by
 cases c<;>simp only[VR] at h
 ·obtain⟨b,N,e,rfl⟩:=h;exact⟨b,N,_,_,e,rfl⟩
 ·obtain⟨b,N,_,e,rfl,_⟩:=h;exact⟨b,N,_,_,e,rfl⟩
 ·obtain⟨rfl,b,N,_,_,e,rfl⟩:=h;exact⟨b,N,_,_,e,rfl⟩
theorem fJ{len:Nat}{c:bc}{v:Value}(h:VR ρ (.slice none len c) v):len=0/\c= .known 0/\v= .slice none 0 0:=by cases c<;>simp only[VR] at h;obtain⟨rfl,rfl,rfl⟩:=h;exact⟨rfl,rfl,rfl⟩
theorem Hy{d:Nat}{ty:TypeId}{a b:AV}{c:Bool}{v u:Value}(h:fZ P (d+1) ty a b=some c)(ha:VR ρ a v)(hb:VR ρ b u)(n1:∀k p k' q,a= .int k p->b= .int k' q->False)(n2:∀p q,a= .str p->b= .str q->False):
 binOp .eql ty v u=(do pure (.bool<|←Op.equal ty v u))/\binOp .neq ty v u=(do pure (.bool<|!(←Op.equal ty v u))):=by
 simp only[fZ] at h;split at h<;>first|(cases h;done)|skip
 ·simp only[VR] at ha hb;subst ha;subst hb;exact⟨rfl,rfl⟩
 ·exact(n1 _ _ _ _ rfl rfl).elim
 ·exact(n2 _ _ rfl rfl).elim
 ·rename_i e q eu;simp only[VR] at ha;subst ha;cases q with
  |none=>simp only[VR] at hb;subst hb;exact⟨rfl,rfl⟩
  |some q=>obtain⟨n,i⟩:=q;simp only[VR] at hb;obtain⟨_,_,_,rfl⟩:=hb;exact⟨rfl,rfl⟩
 ·rename_i e q eu;simp only[VR] at hb;subst hb;obtain⟨n,i⟩:=q;simp only[VR] at ha;obtain⟨_,_,_,rfl⟩:=ha;exact⟨rfl,rfl⟩
 ·simp only[VR] at ha hb;subst ha;subst hb;exact⟨rfl,rfl⟩
 ·simp only[VR] at ha hb;subst ha;obtain⟨_,rfl,_⟩:=hb;exact⟨rfl,rfl⟩
 ·simp only[VR] at ha hb;subst hb;obtain⟨_,rfl,_⟩:=ha;exact⟨rfl,rfl⟩
 ·simp only[VR] at ha hb;obtain⟨_,rfl,_⟩:=ha;obtain⟨_,rfl,_⟩:=hb;exact⟨rfl,rfl⟩
 ·simp only[VR] at ha hb;obtain⟨_,rfl,_⟩:=ha;obtain⟨_,rfl,_⟩:=hb;exact⟨rfl,rfl⟩
 ·rename_i e l1 c1 q l2 c2 eu;obtain⟨_,_,rfl⟩:=fJ ha;cases q with
  |none=>obtain⟨_,_,rfl⟩:=fJ hb;exact⟨rfl,rfl⟩
  |some q=>obtain⟨n,i⟩:=q;obtain⟨_,_,_,_,_,rfl⟩:=mI hb;exact⟨rfl,rfl⟩
 ·rename_i e q l1 c1 l2 c2 eu;obtain⟨_,_,rfl⟩:=fJ hb;obtain⟨n,i⟩:=q;obtain⟨_,_,_,_,_,rfl⟩:=mI ha;exact⟨rfl,rfl⟩
 ·obtain⟨_,_,rfl⟩:=fJ hb;simp only[VR] at ha;rcases ha with⟨_,_,_,_,rfl,_⟩|⟨_,_,_,_,rfl,_⟩<;>exact⟨rfl,rfl⟩
 ·rename_i k0 e0 q eu;simp only[VR] at ha;subst ha;cases q with
  |none=>simp only[VR] at hb;subst hb;exact⟨rfl,rfl⟩
  |some q=>simp only[VR] at hb;obtain⟨_,_,_,rfl⟩:=hb;exact⟨rfl,rfl⟩
 ·simp only[VR] at ha hb;subst hb;obtain⟨_,_,_,rfl⟩:=ha;exact⟨rfl,rfl⟩
 ·simp only[VR] at ha hb;subst ha;subst hb;exact⟨rfl,rfl⟩
 ·simp only[VR] at ha hb;subst ha;obtain⟨_,_,_,rfl,_⟩:=hb;exact⟨rfl,rfl⟩
 ·simp only[VR] at ha hb;subst hb;obtain⟨_,_,_,rfl,_⟩:=ha;exact⟨rfl,rfl⟩
theorem KK{op:BinOp}{ty:TypeId}{a b:AV}{v u:Value}(h:jl P op ty a b=some x)(ha:VR ρ a v)(hb:VR ρ b u):∃r,(binOp op ty v u).run P w= .ok r w/\VR ρ x r:=by
 unfold jl at h;split at h
 ·rename_i k p k' q;simp only[VR] at ha hb;subst ha;subst hb;cases hs:kH op with
  |true=>rw[hs] at h;exact J9 hs h
  |false=>
   rw[hs] at h;cases hk:decide (k=k') with
   |false=>rw[hk] at h;cases h
   |true=>rw[hk] at h;have:=of_decide_eq_true hk;subst this;obtain⟨r,h1,h2,h3⟩:=Lx (P:=P) (w:=w) (ρ:=ρ) hs h;exact⟨r,by rw[h3];exact h1,h2⟩
 ·simp only[VR] at ha hb;subst ha;subst hb;exact Ly h
 ·rename_i n1 n2;split at h<;>first|(cases h;done)|skip
  ·cases e:fZ P Op.maxDepth ty a b with
   |none=>rw[e] at h;cases h
   |some c=>
    rw[e] at h;injection h with h;subst h
    have e':fZ P (9999+1) ty a b=some c:=e;have:=(Hy (P:=P) e' ha hb n1 n2).1;have h2:(Op.equal ty v u).run P w= .ok c w:=vH e ha hb;exact⟨.bool c,by rw[this];simp[h2],by simp[VR]⟩
  ·cases e:fZ P Op.maxDepth ty a b with
   |none=>rw[e] at h;cases h
   |some c=>
    rw[e] at h;injection h with h;subst h
    have e':fZ P (9999+1) ty a b=some c:=e;have:=(Hy (P:=P) e' ha hb n1 n2).2;have h2:(Op.equal ty v u).run P w= .ok c w:=vH e ha hb;exact⟨.bool !c,by rw[this];simp[h2],by simp[VR]⟩
theorem Hz{a:AV}(ha:VR ρ a .nilIface):a= .nilIface:=by
 cases a<;>(try simp only[VR] at ha)<;>first|rfl|(cases ha;done)|skip
 ·rename_i q;cases q<;>simp only[VR] at ha<;>first|(cases ha;done)|(obtain⟨_,_,_,e⟩:=ha;cases e)
 ·rename_i q l c;cases q with
  |none=>obtain⟨_,_,e⟩:=fJ ha;cases e
  |some q=>obtain⟨n,i⟩:=q;obtain⟨_,_,_,_,_,e⟩:=mI ha;cases e
 ·rcases ha with⟨_,_,_,_,e,_⟩|⟨_,_,_,_,e,_⟩<;>cases e
 ·obtain⟨_,_,_,e⟩:=ha;cases e
 ·rename_i q;cases q<;>simp only[VR] at ha<;>first|(cases ha;done)|(obtain⟨_,_,_,e⟩:=ha;cases e)
 ·obtain⟨_,_,_,e,_⟩:=ha;cases e
 ·obtain⟨_,_,_,e⟩:=ha;cases e
 ·obtain⟨_,e,_⟩:=ha;cases e
 ·obtain⟨_,e,_⟩:=ha;cases e
 ·obtain⟨_,e,_⟩:=ha;cases e
theorem HA{a:AV}{cs:Array Value}(ha:VR ρ a<|.agg cs):∃l,a= .agg l:=by
 cases a<;>(try simp only[VR] at ha)<;>first|exact⟨_,rfl⟩|(cases ha;done)|skip
 ·rename_i q;cases q<;>simp only[VR] at ha<;>first|(cases ha;done)|(obtain⟨_,_,_,e⟩:=ha;cases e)
 ·rename_i q l c;cases q with
  |none=>obtain⟨_,_,e⟩:=fJ ha;cases e
  |some q=>obtain⟨n,i⟩:=q;obtain⟨_,_,_,_,_,e⟩:=mI ha;cases e
 ·rcases ha with⟨_,_,_,_,e,_⟩|⟨_,_,_,_,e,_⟩<;>cases e
 ·obtain⟨_,_,_,e⟩:=ha;cases e
 ·rename_i q;cases q<;>simp only[VR] at ha<;>first|(cases ha;done)|(obtain⟨_,_,_,e⟩:=ha;cases e)
 ·obtain⟨_,_,_,e,_⟩:=ha;cases e
 ·obtain⟨_,_,_,e⟩:=ha;cases e
 ·obtain⟨_,e,_⟩:=ha;cases e
 ·obtain⟨_,e,_⟩:=ha;cases e
theorem Lz{op:BinOp}{ty:TypeId}{y z:Operand}{a b:AV}{v u:Value}(h:qF P op ty y z a b=true)(ha:VR ρ a v)(hb:VR ρ b u):(eqGuard op ty y z v u).run P w= .ok () w:=by
 have key:(op= .eql\/op= .neq)->A8 P ty y z a b=true:=by rintro (rfl|rfl)<;>exact h
 by_cases cz:op= .eql\/op= .neq
 ·have hk:=key cz;by_cases h1:v= .nilIface/\u= .nilIface
  ·obtain⟨rfl,rfl⟩:=h1;have:=Hz ha;subst this;have:=Hz hb;subst this;have hc:(isConst y||isConst z)=true:=hk;rcases cz with rfl|rfl<;>(cases y<;>cases z<;>first|(simp[isConst] at hc;done)|rfl)
  ·by_cases h2:(∃cs,v= .agg cs)/\(∃ds,u= .agg ds)
   ·obtain⟨⟨cs,rfl⟩,⟨ds,rfl⟩⟩:=h2;obtain⟨l,rfl⟩:=HA ha;obtain⟨m,rfl⟩:=HA hb;have hq:P.eqGuardType P.depth ty=false:=by simpa[A8] using hk
    exact run_eqGuard_agg w op ty y z cs ds hq
   ·rcases cz with rfl|rfl<;>(cases v<;>cases u<;>first|rfl|(exact absurd ⟨rfl,rfl⟩ h1)|(exact absurd ⟨⟨_,rfl⟩,⟨_,rfl⟩⟩ h2))
 ·cases op<;>first|rfl|(exact absurd (.inl rfl) cz)|(exact absurd (.inr rfl) cz)
theorem Ms{op:BinOp}{ty yt:TypeId}{y z:Operand}(he:∀x v,ak t x=some v->VR ρ v (ev x))(r:Rel B ρ s.h w)(h:fL P op ty y z Sy t s= .ok x s1)(ho:o.op= .binOp op ty y z yt):cU P B ρ s s1 w x<|execOp ev o:=by unfold fL at h;obtain⟨a,h1,h2⟩:=aX h;obtain⟨b,h3,h4⟩:=aX h2;obtain⟨h5,h6⟩:=bM h4;obtain⟨h7,rfl⟩:=de h6;obtain⟨q,g1,g2⟩:=KK (P:=P) (w:=w) h7 (he y a h1)<|he z b h3;have g3:=Lz (P:=P) (w:=w) h5 (he y a h1)<|he z b h3;refine⟨ρ,w,.value q,Ext.refl _ _ _,?_,g2,r,bh.refl _ _⟩;simp[execOp,ho,g3,g1]
theorem Nk{op:UnOp}{ty:TypeId}{y:Operand}(he:∀x v,ak t x=some v->VR ρ v (ev x))(r:Rel B ρ s.h w)(h:rM op y Sy t s= .ok x s1)(ho:o.op= .unOp op ty y):cU P B ρ s s1 w x<|execOp ev o:=by
 unfold rM at h;obtain⟨a,h1,h2⟩:=aX h;obtain⟨h3,rfl⟩:=de h2;have ha:=he y a h1;have:∃q,(Op.unary op<|ev y).run P w= .ok q w/\VR ρ x q:=by
  unfold HU at h3;split at h3<;>first|(cases h3;done)|skip
  ·rename_i k n;simp only[VR] at ha;rw[ha];injection h3 with h3;subst h3
   exact⟨_,rfl,by simp[VR]⟩
  ·rename_i k n;simp only[VR] at ha;rw[ha];injection h3 with h3;subst h3
   refine⟨_,rfl,?_⟩;cases k<;>simp[VR,IntKind.signed]
  ·rename_i c;simp only[VR] at ha;rw[ha];injection h3 with h3;subst h3
   exact⟨_,rfl,by simp[VR]⟩
 obtain⟨q,g1,g2⟩:=this;refine⟨ρ,w,.value q,Ext.refl _ _ _,?_,g2,r,bh.refl _ _⟩;simp[execOp,ho,g1]
end
end Go.Rn
namespace Go.Rn
open Go.RowKit
section
variable {P:Program} {B:aC} {ρ:ah} {w:World} {s s1:AS} {x:AV} {Sy:aD} {t:Tr AV} {ev:Operand->Value} {o:Oper}
theorem foldl_push(ns:List Int):∀(b:ByteArray),ns.foldl (fun r n=>r.push<|UInt8.ofNat n.toNat) b=⟨(b.data.toList++ns.map (fun n=>UInt8.ofNat n.toNat)).toArray⟩:=by
 induction ns with
 |nil=>intro b;obtain⟨⟨l⟩⟩:=b;simp
 |cons n ns ih=>intro b;rw[List.foldl_cons,ih];obtain⟨⟨l⟩⟩:=b;simp[ByteArray.push]
theorem AO:∀{l:List AV} {bs:List UInt8} {vs:List Value},bytesOf l=some bs->aq ρ l vs->∃ns:List Int,vs=ns.map (Value.int .u8)/\bs=ns.map fun n=>UInt8.ofNat n.toNat
 |[],bs,vs,h,k=>by
  simp only[bytesOf] at h;injection h with h;subst h
  simp only[aq] at k;subst k;exact⟨[],rfl,rfl⟩
 |y::l,bs,vs,h,k=>by
  cases y<;>(try simp only[bytesOf] at h)<;>first|(cases h;done)|skip
  rename_i kd n;cases kd<;>simp only[bytesOf] at h<;>first|(cases h;done)|skip
  cases e:bytesOf l with
  |none=>rw[e] at h;cases h
  |some r=>
   simp only[e] at h;injection h with h;subst h
   simp only[aq,VR] at k;obtain⟨v,ys,rfl,rfl,k2⟩:=k;obtain⟨ns,rfl,rfl⟩:=AO e k2;exact⟨n::ns,rfl,rfl⟩
theorem sK{size n m i len:Nat}{c:bc}(h:c≠ .lost):firstCells size n (.slice (some (m,i)) len c)=dG m i (n*size):=by cases len<;>cases c<;>first|rfl|exact absurd rfl h
theorem KL{src dst:TypeId}{a:AV}{n:Nat}(h:toText P src dst a n s= .ok x s1):
 ∃e,P.underlying src=some (.slice e)/\P.underlying dst=some .string/\(ay (isByte P e) <| (firstCells 1 n a).bind fun l=>aA (bytesOf l) fun b=>M.pure<|.str ⟨b.toArray⟩) s= .ok x s1:=by
 unfold toText at h;generalize P.underlying src=u at h ⊢;generalize P.underlying dst=v at h ⊢;rcases u with _|d1
 ·cases h
 ·cases d1<;>first|(cases h;done)|skip
  rcases v with _|d2
  ·cases h
  ·cases d2<;>first|(cases h;done)|skip
   exact⟨_,rfl,rfl,h⟩
theorem LA{src dst:TypeId}{y:Operand}{p:Option<|Nat×Nat}{n:Nat}{c:bc}(ha:VR ρ (.slice p n c)<|ev y)(fi:aO s)(r:Rel B ρ s.h w)(h2:toText P src dst (.slice p n c) n s= .ok x s1)(ho:o.op= .convert src dst y):cU P B ρ s s1 w x<|execOp ev o:=by
 obtain⟨e,e1,e2,h2⟩:=KL h2;obtain⟨h3,h4⟩:=bM h2;have e3:P.underlying e=some (.int .u8):=by
  unfold isByte at h3;split at h3
  ·assumption
  ·cases h3
 obtain⟨l,s2,h5,h6⟩:=M.aI h4;obtain⟨bs,h7,h8⟩:=aX h6;obtain⟨rfl,rfl⟩:=aM h8;cases p with
 |none=>
  obtain⟨rfl,rfl,hv⟩:=fJ ha;have kq:(M.pure []:M<|List AV) s= .ok l s1:=h5;obtain⟨rfl,rfl⟩:=aM kq;simp only[bytesOf] at h7;injection h7 with h7;subst h7
  refine⟨ρ,w,.value<|.string .empty,Ext.refl _ _ _,?_,?_,r,bh.refl _ _⟩
  ·simp[execOp,ho,hv,run_convert_bytes_string w src dst e none 0 0 e1 e3 e2,Conv.bytesToString]
  ·simp only[VR];rfl
 |some p=>
  obtain⟨m,i⟩:=p;cases c with
  |lost=>
   simp only[VR] at ha;obtain⟨rfl,b,N,q,c,e4,hv⟩:=ha;obtain⟨_,kq⟩:=bM (show(ay (Nat.beq 0 0) <| (M.pure []:M<|List AV)) s= .ok l s1 from h5);obtain⟨rfl,rfl⟩:=aM kq;simp only[bytesOf] at h7;injection h7 with h7;subst h7
   refine⟨ρ,w,.value<|.string .empty,Ext.refl _ _ _,?_,by simp only[VR];rfl,r,bh.refl _ _⟩;have:=run_bytesToString (P:=P) w ⟨b,q,none⟩ 0 c [] (by rfl);simp[execOp,ho,hv,run_convert_bytes_string w src dst e _ 0 c e1 e3 e2,this]
  |known c0=>
   have kq:dG m i (n*1) s= .ok l s1:=by rw[sK<|by simp] at h5;exact h5
   rw[Nat.mul_one] at kq;simp only[VR] at ha;obtain⟨b,N,e4,hv⟩:=ha;obtain⟨a1,a2,a3,a4,vs,a5,a6,a7⟩:=mG (P:=P) fi r kq e4;obtain⟨ns,rfl,rfl⟩:=AO h7 a6;have:=run_bytesToString (P:=P) w ⟨b,i,none⟩ n c0 ns a5;refine⟨ρ,w,.value<|.string<|ns.foldl (fun r n=>r.push<|UInt8.ofNat n.toNat) ByteArray.empty,Ext.refl _ _ _,?_,?_,by rw[a1];exact r,bh.refl _ _⟩
   ·simp[execOp,ho,hv,run_convert_bytes_string w src dst e _ n c0 e1 e3 e2,this]
   ·simp only[VR];rw[foldl_push];rfl
  |bA lo e5=>
   have kq:dG m i (n*1) s= .ok l s1:=by rw[sK<|by simp] at h5;exact h5
   rw[Nat.mul_one] at kq;simp only[VR] at ha;obtain⟨b,N,c0,e4,hv,_⟩:=ha;obtain⟨a1,a2,a3,a4,vs,a5,a6,a7⟩:=mG (P:=P) fi r kq e4;obtain⟨ns,rfl,rfl⟩:=AO h7 a6;have:=run_bytesToString (P:=P) w ⟨b,i,none⟩ n c0 ns a5;refine⟨ρ,w,.value<|.string<|ns.foldl (fun r n=>r.push<|UInt8.ofNat n.toNat) ByteArray.empty,Ext.refl _ _ _,?_,?_,by rw[a1];exact r,bh.refl _ _⟩
   ·simp[execOp,ho,hv,run_convert_bytes_string w src dst e _ n c0 e1 e3 e2,this]
   ·simp only[VR];rw[foldl_push];rfl
theorem EV(x:AV):∀(k off:Nat),eF .nil [x] k off=some (List.replicate k x)
 |0,_=>rfl
 |k+1,off=>by
  have:cellAt .nil [x] off=some x:=by unfold cellAt;rw[Tr.get_nil];simp[Nat.mod_one]
  simp only[eF,this,EV x k<|off+1,List.replicate_succ]
theorem Fl:∀k:Nat,bytesOf (List.replicate k<|.int .u8 0)=some (List.replicate k 0)
 |0=>rfl
 |k+1=>by simp only[List.replicate_succ,bytesOf,Fl k];rfl
theorem KM{src dst:TypeId}{a:AV}{n:Nat}(h:toZero P src dst a n s= .ok x s1):
 ∃e,P.underlying src=some (.slice e)/\P.underlying dst=some .string/\isByte P e=true/\zeroOf a n s= .ok x s1:=by
 unfold toZero at h;generalize P.underlying src=u at h ⊢;generalize P.underlying dst=v at h ⊢;rcases u with _|d1
 ·cases h
 ·cases d1<;>first|(cases h;done)|skip
  rcases v with _|d2
  ·cases h
  ·cases d2<;>first|(cases h;done)|skip
   obtain⟨h1,h2⟩:=bM h;exact⟨_,rfl,rfl,h1,h2⟩
theorem Ka{o:U}{n:Nat}(h:yR o n=true):∃m,o= .cells m .nil [.int .u8 0]/\Nat.ble n m=true:=by
 unfold yR at h;cases o<;>first|(cases h;done)|skip
 rename_i m t z;cases t<;>first|(cases h;done)|skip
 cases z with
 |nil=>cases h
 |cons y l=>
  cases l with
  |cons _ _=>cases y<;>(try cases h)<;>(rename_i k _;cases k<;>cases h)
  |nil=>
   cases y<;>first|(cases h;done)|skip
   rename_i k v;cases k<;>first|(cases h;done)|skip
   obtain⟨h1,h2⟩:=and_true.1 h;have:v=0:=by simpa using h2
   subst this;exact⟨m,rfl,h1⟩
theorem Kb{src dst:TypeId}{p:Option<|Nat×Nat}{n:Nat}{c:bc}{x:AV}(hn:n≠0)(h:toZero P src dst (.slice p n c) n s= .ok x s1):x= .oe n/\toText P src dst (.slice p n c) n s= .ok (.str ⟨(List.replicate n (0:UInt8)).toArray⟩) s1:=by
 obtain⟨e,e1,e2,h3,h4⟩:=KM h;cases p with
 |none=>cases h4
 |some p=>
  obtain⟨r0,o0⟩:=p;cases c with
  |known c0=>
   obtain⟨ho,h4⟩:=bM (show(ay (Nat.beq o0 0) <| (aY r0).bind fun o=>ay (yR o n) <| M.pure<|.oe n) s= .ok x s1 from h4);have gx:=cj.1 ho;subst gx;obtain⟨ob,s1,h5,h6⟩:=M.aI h4;obtain⟨h7,h8⟩:=bM h6;obtain⟨rfl,rfl⟩:=aM h8;obtain⟨m,rfl,h9⟩:=Ka h7;refine⟨rfl,?_⟩;have hr:dG r0 0 n s= .ok (List.replicate n<|.int .u8 0) s1:=by
    obtain⟨k,rfl⟩:∃k,n=k+1:=⟨n - 1,by omega⟩;show((aY r0).bind fun o=>match o with
     | .cells m t z=>ay (Nat.ble (0+(k+1)) m) <| lift (eF t z (k+1) 0)
     | .ro m t=>ay (Nat.ble (0+(k+1)) m) <| lift (eF t [] (k+1) 0)
     |_=>fail) s=_
    rw[M.bo h5];show ay (Nat.ble (0+(k+1)) m) (lift<|eF .nil [.int .u8 0] (k+1) 0) s1=_;rw[Nat.zero_add,h9,bC,EV];rfl
   have hf:firstCells 1 n (.slice (some (r0,0)) n<|.known c0) s= .ok (List.replicate n<|.int .u8 0) s1:=by rw[sK (by simp),Nat.mul_one];exact hr
   have:toText P src dst (.slice (some (r0,0)) n<|.known c0) n=(firstCells 1 n<|.slice (some (r0,0)) n<|.known c0).bind fun l=>aA (bytesOf l) fun b=>M.pure<|.str ⟨b.toArray⟩:=by unfold toText;simp only[e1,e2,h3,bC]
   rw[this,M.bo hf,Fl];rfl
  |_=>cases h4
theorem JW{src dst:TypeId}{y:Operand}(he:∀x v,ak t x=some v->VR ρ v (ev x))(fi:aO s)(r:Rel B ρ s.h w)(h:qu P src dst y Sy t s= .ok x s1)(ho:o.op= .convert src dst y):cU P B ρ s s1 w x<|execOp ev o:=by
 unfold qu at h;obtain⟨a,h1,h2⟩:=aX h;have ha:=he y a h1;have plain:lift (Bw P src dst a) s= .ok x s1->cU P B ρ s s1 w x (execOp ev o):=by
  intro h2;obtain⟨h3,rfl⟩:=de h2;have:∃q,(convert src dst<|ev y).run P w= .ok q w/\VR ρ x q:=by
   unfold Bw at h3;split at h3<;>first|(cases h3;done)|skip
   ·rename_i d k n e1 e2 _;simp only[VR] at ha;rw[ha];injection h3 with h3;subst h3
    refine⟨.int d<|d.wrap n,?_,by simp[VR]⟩;simp[convert,aR e1,aR e2,Conv.intToInt]
   ·rename_i d q e1 e2 _;simp only[VR] at ha;rw[ha];injection h3 with h3;subst h3
    refine⟨.string q,?_,by simp[VR]⟩;cases d<;>simp[convert,aR e1,aR e2]
  obtain⟨q,g1,g2⟩:=this;exact⟨ρ,w,.value q,Ext.refl _ _ _,by simp[execOp,ho,g1],g2,r,bh.refl _ _⟩
 cases a<;>simp only[] at h2<;>first|exact plain h2|skip
 rename_i p n c;have text:∀x:AV,toText P src dst (.slice p n c) n s= .ok x s1->cU P B ρ s s1 w x (execOp ev o):=by intro x h2;exact LA ha fi r h2 ho
 cases hb:Nat.blt 1048576 n with
 |false=>rw[hb] at h2;exact text x h2
 |true=>
  rw[hb] at h2;have hn:n≠0:=by intro e;subst e;cases hb
  obtain⟨rfl,h3⟩:=Kb hn h2;obtain⟨σ,w',nv,a1,a2,a3,a4,a5⟩:=text _ h3;refine⟨σ,w',nv,a1,a2,?_,a4,a5⟩;cases nv with
  |value v=>simp only[VR] at a3 ⊢;exact a3
  |skip=>cases a3
  |_=>cases a3
theorem Jz{ty:TypeId}{y:Operand}(he:∀x v,ak t x=some v->VR ρ v (ev x))(r:Rel B ρ s.h w)(h:qe P ty y Sy t s= .ok x s1)(ho:o.op= .makeInterface ty y):cU P B ρ s s1 w x<|execOp ev o:=by
 unfold qe at h;obtain⟨a,h1,h2⟩:=aX h;obtain⟨h3,rfl⟩:=de h2;unfold GZ at h3;cases e:P.underlying ty with
 |none=>rw[e] at h3;cases h3
 |some d=>
  rw[e] at h3;refine⟨ρ,w,.value<|.iface ty<|ev y,Ext.refl _ _ _,?_,?_,r,bh.refl _ _⟩
  ·cases d<;>first|(cases h3;done)|simp[execOp,ho,Instr.makeInterface,aR e]
  ·cases d<;>first|(cases h3;done)|(injection h3 with h3;subst h3;simp only[VR];exact⟨_,rfl,he y a h1⟩)
theorem JK{fn:Fn}{first captured:Array Operand}(he:∀x v,ak t x=some v->VR ρ v (ev x))(r:Rel B ρ s.h w)(h:ql fn first.toList captured.toList Sy t s= .ok x s1)(ho:o.op= .makeFunc fn first captured):cU P B ρ s s1 w x<|execOp ev o:=by
 unfold ql at h;obtain⟨h0,h1⟩:=bM h;obtain⟨f,h2,h3⟩:=aX h1;obtain⟨c,h4,h5⟩:=aX h3;obtain⟨rfl,rfl⟩:=aM h5;refine⟨ρ,w,.value<|.func fn (first.map ev)<|captured.map ev,Ext.refl _ _ _,?_,?_,r,bh.refl _ _⟩
 ·simp[execOp,ho,Instr.makeFunc]
 ·simp only[VR];refine⟨by cases fn<;>first|rfl|(simp[Iu] at h0),_,_,rfl,?_,?_⟩
  ·rw[Array.toList_map];exact tc he h2
  ·rw[Array.toList_map];exact tc he h4
theorem G4(r:Rel B ρ s.h w)(hf:bH s.nx s1.nx ρ){n:Nat}(h:cN (.map [] 0) s= .ok n s1):
 n=s.nx/\Ext s.nx s1.nx ρ (dM ρ n (w.heap.size,0))/\Rel B (dM ρ n (w.heap.size,0)) s1.h {w with heap:=w.heap.push<|.map #[] 0}:=by
 obtain⟨ht,rfl,rfl⟩:=jQ h;have dR:ρ s.nx=none:=hf s.nx (Nat.le_refl _) (Nat.lt_succ_self _) (by omega);refine⟨rfl,Ext.lq dR,r.new ht dR rfl ⟨#[],rfl,rfl,rfl⟩⟩
theorem JX{ty:TypeId}{q:Option Operand}(he:∀x v,ak t x=some v->VR ρ v (ev x))(r:Rel B ρ s.h w)(hf:bH s.nx s1.nx ρ)(h:qv P ty q Sy t s= .ok x s1)(ho:o.op= .makeMap ty q):cU P B ρ s s1 w x<|execOp ev o:=by
 unfold qv at h;obtain⟨u,s2,h1,h2⟩:=M.aI h;obtain⟨n,s3,h3,h4⟩:=M.aI h2;obtain⟨rfl,rfl⟩:=aM h4;cases q with
 |none=>
  obtain⟨_,rfl⟩:=aM h1;obtain⟨rfl,e1,e2⟩:=G4 r hf h3;refine⟨_,_,.value<|.map<|some w.heap.size,e1,?_,?_,e2,(dj.alloc w _).below r.size⟩
  ·simp[execOp,ho,Instr.makeMap]
  ·simp only[VR];exact⟨_,_,eQ _ _ _,rfl⟩
 |some y=>
  obtain⟨v,g1,g2⟩:=aX h1;obtain⟨i,g3,g4⟩:=aX g2;obtain⟨k,_,hv⟩:=(he y v g1).tq g3;have:zm P ty=true/\s2=s:=by
   cases hb:zm P ty with
   |false=>rw[hb] at g4;cases g4
   |true=>rw[hb] at g4;cases g4;exact⟨rfl,rfl⟩
  obtain⟨hm,rfl⟩:=this;obtain⟨rfl,e1,e2⟩:=G4 r hf h3;refine⟨_,_,.value<|.map<|some w.heap.size,e1,?_,?_,e2,(dj.alloc w _).below r.size⟩
  ·unfold zm at hm;split at hm
   ·rename_i a b e;simp[execOp,ho,Instr.makeMap,aR e,hv,asInt,asIntOf]
   ·cases hm
  ·simp only[VR];exact⟨_,_,eQ _ _ _,rfl⟩
theorem oX{i:Int}{len n:Nat}(h:within i len=some n):i=(n:Int)/\n<len:=by
 unfold within at h;cases i with
 |negSucc k=>cases h
 |ofNat k=>
  cases hb:Nat.blt k len with
  |false=>simp only[hb] at h;cases h
  |true=>
   simp only[hb] at h;injection h with h;subst h
   exact⟨rfl,by rw[←blt_eq];exact hb⟩
theorem JL{ty:TypeId}{a:AV}{v:Value}{f:Nat}(ha:VR ρ a v)(h:fieldAddr P ty a f=some x):∃q,(Instr.fieldAt ty v f).run P w= .ok q w/\VR ρ x q:=by
 unfold fieldAddr at h;split at h<;>first|(cases h;done)|skip
 rename_i fs e;cases e1:fs[f]? with
 |none=>rw[e1] at h;cases h
 |some fd=>
  simp only[e1] at h;cases e2:bW P fd.type with
  |none=>rw[e2] at h;cases h
  |some k=>
   simp only[e2] at h;cases e3:Nat.beq k 0 with
   |true=>rw[e3] at h;cases h
   |false=>
    simp only[e3] at h;have hk:¬k=0:=by rw[←beq_eq,e3];simp
    split at h<;>first|(cases h;done)|skip
    ·rename_i n i;injection h with h;subst h
     simp only[VR] at ha;obtain⟨b,N,e4,rfl⟩:=ha;refine⟨.pointer<|some ⟨b,i+fd.offset,none⟩,?_,?_⟩
     ·simp[Instr.fieldAt,aR e,e1,Instr.sureAddr,fieldPlace,cP e2,hk,Addr.hQ]
     ·simp only[VR];exact⟨b,N,e4,rfl⟩
    ·rename_i n i;injection h with h;subst h
     simp only[VR] at ha;obtain⟨b,sh,e4,rfl⟩:=ha;refine⟨.pointer<|some ⟨b,sh+i+fd.offset,none⟩,?_,?_⟩
     ·simp[Instr.fieldAt,aR e,e1,Instr.sureAddr,fieldPlace,cP e2,hk,Addr.hQ]
     ·simp only[VR];exact⟨b,sh,e4,by rw[Nat.add_assoc]⟩
theorem JE{ty:TypeId}{y:Operand}{f:Nat}(he:∀x v,ak t x=some v->VR ρ v (ev x))(r:Rel B ρ s.h w)(h:qj P ty y f Sy t s= .ok x s1)(ho:o.op= .fieldAddr ty y f):cU P B ρ s s1 w x<|execOp ev o:=by unfold qj at h;obtain⟨a,h1,h2⟩:=aX h;obtain⟨h3,rfl⟩:=de h2;obtain⟨q,g1,g2⟩:=JL (P:=P) (w:=w) (he y a h1) h3;exact⟨ρ,w,.value q,Ext.refl _ _ _,by simp[execOp,ho,g1],g2,r,bh.refl _ _⟩
theorem KX{ty:TypeId}{y:Operand}{f:Nat}(he:∀x v,ak t x=some v->VR ρ v (ev x))(r:Rel B ρ s.h w)(h:qQ P ty y f Sy t s= .ok x s1)(ho:o.op= .field ty y f):cU P B ρ s s1 w x<|execOp ev o:=by
 unfold qQ at h;obtain⟨a,h1,h2⟩:=aX h;obtain⟨h3,rfl⟩:=de h2;have ha:=he y a h1;unfold GY at h3;split at h3<;>first|(cases h3;done)|skip
 rename_i fs cs e;cases e1:fs[f]? with
 |none=>rw[e1] at h3;cases h3
 |some fd=>simp only[e1] at h3;simp only[VR] at ha;obtain⟨ds,hv,hc⟩:=ha;obtain⟨q,g1,g2⟩:=qo (P:=P) (w:=w) hc h3;exact⟨ρ,w,.value q,Ext.refl _ _ _,by simp[execOp,ho,hv,Instr.field,aR e,e1,asAgg,g1],g2,r,bh.refl _ _⟩
theorem JF{ty:TypeId}{y z:Operand}(he:∀x v,ak t x=some v->VR ρ v (ev x))(r:Rel B ρ s.h w)(h:jO P ty y z Sy t s= .ok x s1)(ho:o.op= .indexAddr ty y z):cU P B ρ s s1 w x<|execOp ev o:=by
 unfold jO at h;obtain⟨a,h1,h2⟩:=aX h;obtain⟨ix,h3,h4⟩:=aX h2;obtain⟨h5,rfl⟩:=de h4;have ha:=he y a h1;unfold indexAddr at h5;cases ei:intOf ix with
 |none=>rw[ei] at h5;cases h5
 |some i=>
  simp only[ei] at h5;obtain⟨k,_,hi⟩:=(he z ix h3).tq ei;have:∃q,(Instr.indexAt ty (ev y)<|ev z).run P w= .ok q w/\VR ρ x q:=by
   rw[hi];split at h5<;>first|(cases h5;done)|skip
   ·rename_i len e n off e1;split at h5<;>first|(cases h5;done)|skip
    rename_i j m e2 e3;injection h5 with h5;subst h5
    obtain⟨rfl,hj⟩:=oX e2;simp only[VR] at ha;obtain⟨b,N,e4,hv⟩:=ha;rw[hv];refine⟨.pointer<|some ⟨b,off+j*m,none⟩,?_,by simp only[VR];exact⟨b,N,e4,rfl⟩⟩;have hr:(0:Int)<=(j:Int)/\(j:Int)<(len:Int):=⟨by omega,by omega⟩;simp[Instr.indexAt,asIntOf,aR e1,Instr.sureAddr,hr,cP e3,Addr.hQ,hj]
   ·rename_i e n off len cap e1;split at h5<;>first|(cases h5;done)|skip
    rename_i j m e2 e3;injection h5 with h5;subst h5
    obtain⟨rfl,hj⟩:=oX e2;have hr:(0:Int)<=(j:Int)/\(j:Int)<(len:Int):=⟨by omega,by omega⟩;have fin:∀b N c,ρ n=some (b,N)->ev y= .slice (some ⟨b,off,none⟩) len c->∃q,(Instr.indexAt ty (ev y)<|.int k j).run P w= .ok q w/\VR ρ (.ptr<|some (n,off+j*m)) q:=by intro b N c e4 hv;rw[hv];refine⟨.pointer<|some ⟨b,off+j*m,none⟩,?_,by simp only[VR];exact⟨b,N,e4,rfl⟩⟩;simp[Instr.indexAt,asIntOf,aR e1,hr,cP e3,Addr.hQ,hj]
    cases cap with
    |known c=>simp only[VR] at ha;obtain⟨b,N,e4,hv⟩:=ha;exact fin b N c e4 hv
    |bA lo e5=>simp only[VR] at ha;obtain⟨b,N,c,e4,hv,_⟩:=ha;exact fin b N c e4 hv
    |lost=>simp only[VR] at ha;omega
   ·rename_i e n off len e1;split at h5<;>first|(cases h5;done)|skip
    rename_i j m e2 e3;injection h5 with h5;subst h5
    obtain⟨rfl,hj⟩:=oX e2;have hr:(0:Int)<=(j:Int)/\(j:Int)<(len:Int):=⟨by omega,by omega⟩;simp only[VR] at ha;rcases ha with⟨_,h0,_⟩|⟨b,sh,c,e4,hv,_⟩
    ·omega
    rw[hv];refine⟨.pointer<|some ⟨b,sh+(off+j*m),none⟩,?_,by simp only[VR];exact⟨b,sh,e4,rfl⟩⟩;simp[Instr.indexAt,asIntOf,aR e1,hr,cP e3,Addr.hQ,hj,Nat.add_assoc]
  obtain⟨q,g1,g2⟩:=this;exact⟨ρ,w,.value q,Ext.refl _ _ _,by simp[execOp,ho,g1],g2,r,bh.refl _ _⟩
theorem KY{ty:TypeId}{y z:Operand}(he:∀x v,ak t x=some v->VR ρ v (ev x))(r:Rel B ρ s.h w)(h:qR P ty y z Sy t s= .ok x s1)(ho:o.op= .index ty y z):cU P B ρ s s1 w x<|execOp ev o:=by
 unfold qR at h;obtain⟨a,h1,h2⟩:=aX h;obtain⟨ix,h3,h4⟩:=aX h2;obtain⟨h5,rfl⟩:=de h4;have ha:=he y a h1;unfold indexOf at h5;cases ei:intOf ix with
 |none=>rw[ei] at h5;cases h5
 |some i=>
  simp only[ei] at h5;obtain⟨k,_,hi⟩:=(he z ix h3).tq ei;have:∃q,(Instr.index ty (ev y)<|ev z).run P w= .ok q w/\VR ρ x q:=by
   rw[hi];split at h5<;>first|(cases h5;done)|skip
   ·rename_i len e cs e1;split at h5<;>first|(cases h5;done)|skip
    rename_i j m e2 e3;obtain⟨rfl,hj⟩:=oX e2;simp only[VR] at ha;obtain⟨ds,hv,hc⟩:=ha;rw[hv];obtain⟨q,g1,g2⟩:=qo (P:=P) (w:=w) hc h5;have hr:(0:Int)<=(j:Int)/\(j:Int)<(len:Int):=⟨by omega,by omega⟩;refine⟨q,?_,g2⟩;simp[Instr.index,asIntOf,aR e1,hr,cP e3,g1,hj]
   ·rename_i q e1;split at h5<;>first|(cases h5;done)|skip
    rename_i j e2;split at h5<;>first|(cases h5;done)|skip
    rename_i b e3;injection h5 with h5;subst h5
    obtain⟨rfl,hj⟩:=oX e2;simp only[VR] at ha;rw[ha];refine⟨.int .u8 b.toNat,?_,by simp[VR]⟩;have hb:q[j]? =some b:=by obtain⟨⟨l⟩⟩:=q;have z7:l[j]? =some b:=e3;have aS:j<l.length:=(List.getElem?_eq_some_iff.1 z7).1;have:(ByteArray.mk ⟨l⟩)[j]? =some ((ByteArray.mk ⟨l⟩)[j]'hj):=getElem?_pos _ _ _;rw[this];have hx:(ByteArray.mk ⟨l⟩)[j]'hj=l[j]'aS:=rfl;rw[hx, ←List.getElem?_eq_getElem aS,z7]
    simp[Instr.index,asIntOf,aR e1,hb]
  obtain⟨q,g1,g2⟩:=this;exact⟨ρ,w,.value q,Ext.refl _ _ _,by simp[execOp,ho,g1],g2,r,bh.refl _ _⟩
theorem Kc{xt ty:TypeId}{ok:Bool}{y:Operand}(he:∀x v,ak t x=some v->VR ρ v (ev x))(r:Rel B ρ s.h w)(h:qG P ty ok y Sy t s= .ok x s1)(ho:o.op= .typeAssert y xt ty ok):cU P B ρ s s1 w x<|execOp ev o:=by
 unfold qG at h;obtain⟨a,h1,h2⟩:=aX h;obtain⟨h3,rfl⟩:=de h2;have ha:=he y a h1;have:∃q,(Instr.typeAssert (ev y) xt ty ok).run P w= .ok q w/\VR ρ x q:=by
  unfold G0 at h3;cases e:P.underlying ty with
  |none=>rw[e] at h3;cases h3
  |some d=>
   simp only[e] at h3;have vx:∀ms,d≠ .interface ms:=by intro ms e2;subst e2;cases h3
   have dJ:BO P ty ok a=some x:=by cases d<;>first|exact h3|exact absurd rfl<|vx _
   clear h3;cases a<;>simp only[BO] at dJ<;>first|(cases dJ;done)|skip
   ·rename_i ti z;simp only[VR] at ha;obtain⟨v,hv,hz⟩:=ha;rw[hv];cases hb:Nat.beq ti ty with
    |true=>
     simp only[hb] at dJ;have:=cj.1 hb;subst this;cases ok with
     |true=>
      injection dJ with dJ;subst dJ
      refine⟨.tuple #[v,.bool true],?_,by simp only[VR,aq];exact⟨_,rfl,_,_,rfl,hz,_,_,rfl,rfl,rfl⟩⟩;cases d<;>first|(exfalso;exact vx _ rfl)|(simp[Instr.typeAssert,aR e];done)
     |false=>
      injection dJ with dJ;subst dJ
      refine⟨v,?_,hz⟩;cases d<;>first|(exfalso;exact vx _ rfl)|(simp[Instr.typeAssert,aR e];done)
    |false=>
     simp only[hb] at dJ;have bO:¬ti=ty:=by rw[←beq_eq,hb];simp
     cases ok with
     |false=>cases dJ
     |true=>
      simp only[] at dJ;cases ez:eT P ty with
      |none=>rw[ez] at dJ;cases dJ
      |some z0=>
       simp only[ez] at dJ;injection dJ with dJ;subst dJ
       obtain⟨vz,g1,g2⟩:=qh (P:=P) (w:=w) ρ ez;refine⟨.tuple #[vz,.bool false],?_,by simp only[VR,aq];exact⟨_,rfl,_,_,rfl,g2,_,_,rfl,rfl,rfl⟩⟩;cases d<;>first|(exfalso;exact vx _ rfl)|(simp[Instr.typeAssert,aR e,bO,g1];done)
   ·simp only[VR] at ha;rw[ha];cases ok with
    |false=>cases dJ
    |true=>
     simp only[] at dJ;cases ez:eT P ty with
     |none=>rw[ez] at dJ;cases dJ
     |some z0=>
      simp only[ez] at dJ;injection dJ with dJ;subst dJ
      obtain⟨vz,g1,g2⟩:=qh (P:=P) (w:=w) ρ ez;refine⟨.tuple #[vz,.bool false],?_,by simp only[VR,aq];exact⟨_,rfl,_,_,rfl,g2,_,_,rfl,rfl,rfl⟩⟩;cases d<;>first|(exfalso;exact vx _ rfl)|(simp[Instr.typeAssert,aR e,g1];done)
 obtain⟨q,g1,g2⟩:=this;exact⟨ρ,w,.value q,Ext.refl _ _ _,by simp[execOp,ho,g1],g2,r,bh.refl _ _⟩
theorem JY{y:Operand}{i:Nat}(he:∀x v,ak t x=some v->VR ρ v (ev x))(r:Rel B ρ s.h w)(h:qx y i Sy t s= .ok x s1)(ho:o.op= .extract y i):cU P B ρ s s1 w x<|execOp ev o:=by
 unfold qx at h;obtain⟨a,h1,h2⟩:=aX h;obtain⟨h3,rfl⟩:=de h2;have ha:=he y a h1;unfold partOf at h3;split at h3<;>first|(cases h3;done)|skip
 rename_i l;simp only[VR] at ha;obtain⟨vs,hv,hl⟩:=ha;obtain⟨q,g1,g2⟩:=hl.get i x h3;have oC:vs[i]? =some q:=by simpa using g1
 exact⟨ρ,w,.value q,Ext.refl _ _ _,by simp[execOp,ho,hv,Instr.extract,oC],g2,r,bh.refl _ _⟩
end
end Go.Rn
