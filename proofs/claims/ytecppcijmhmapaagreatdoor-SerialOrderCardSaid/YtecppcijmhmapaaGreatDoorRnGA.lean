import Derived.Calls
import Derived.Orders
import Derived.Below
import Derived.Laws.CopyRow
import Derived.Laws.Cells
import Derived.Laws.Tables
import Derived.Laws.StructEq
import Derived.Laws.BytesString
set_option maxRecDepth 100000
set_option maxHeartbeats 8000000
set_option linter.unusedSimpArgs false
set_option linter.unusedVariables false
namespace Go.Rn
noncomputable section
inductive Tr (α:Type) where
 |nil:Tr α
 |node (l:Tr α) (v:Option α) (r:Tr α):Tr α
def Tr.oh{α:Type}(p:List Bool):Tr α->Option α:= @List.rec Bool (fun _=>Tr α->Option α) (fun t=> @Tr.rec α (fun _=>Option α) none (fun _ v _ _ _=>v) t) (fun b _ ih t=> @Tr.rec α (fun _=>Option α) none (fun l _ r _ _=>ih<|@Bool.rec (fun _=>Tr α) r l b) t) p
def Tr.ig{α:Type}(v:Option α)(p:List Bool):Tr α->Tr α:=
 @List.rec Bool (fun _=>Tr α->Tr α) (fun t=> @Tr.rec α (fun _=>Tr α) (.node .nil v .nil) (fun l _ r _ _=>.node l v r) t)
  (fun b _ ih t=> @Tr.rec α (fun _=>Tr α)
   (@Bool.rec (fun _=>Tr α) (.node .nil none<|ih .nil) (.node (ih .nil) none .nil) b)
   (fun l x r _ _=> @Bool.rec (fun _=>Tr α) (.node l x<|ih r) (.node (ih l) x r) b) t) p
theorem Tr.zX{α:Type}(p:List Bool):(Tr.nil:Tr α).oh p=none:=by cases p<;>rfl
theorem Tr.zN{α:Type}(l r:Tr α)(v:Option α):(Tr.node l v r).oh []=v:=rfl
theorem Tr.zO{α:Type}(l r:Tr α)(v:Option α)(b:Bool)(p:List Bool):(Tr.node l v r).oh (b::p)=if b=true then l.oh p else r.oh p:=by cases b<;>rfl
theorem Tr.wO{α:Type}(l r:Tr α)(x v:Option α)(b:Bool)(p:List Bool):Tr.ig v (b::p) (Tr.node l x r)=if b=true then .node (Tr.ig v p l) x r else .node l x (Tr.ig v p r):=by cases b<;>rfl
theorem Tr.CV{α:Type}(v:Option α)(b:Bool)(p:List Bool):Tr.ig v (b::p) (Tr.nil:Tr α)=if b=true then .node (Tr.ig v p .nil) none .nil else .node .nil none (Tr.ig v p .nil):=by cases b<;>rfl
theorem Tr.Cv{α:Type}(v:Option α):∀(p q:List Bool) (t:Tr α),(Tr.ig v p t).oh q=if q=p then v else t.oh q
 |[],q,t=>by
  cases t with
  |nil=>
   show(Tr.node .nil v .nil).oh q=_;cases q with
   |nil=>simp[Tr.zN]
   |cons b q=>simp[Tr.zO,Tr.zX]
  |node l x r=>
   show(Tr.node l v r).oh q=_;cases q with
   |nil=>simp[Tr.zN]
   |cons b q=>simp[Tr.zO]
 |a::p,q,t=>by
  cases t with
  |nil=>
   rw[Tr.CV];cases q with
   |nil=>cases a<;>simp[Tr.zN,Tr.zX]
   |cons b q=>cases a<;>cases b<;>simp[Tr.zO,Tr.zX,Tr.Cv v p q]
  |node l x r=>
   rw[Tr.wO];cases q with
   |nil=>cases a<;>simp[Tr.zN]
   |cons b q=>cases a<;>cases b<;>simp[Tr.zO,Tr.Cv v p q]
def path(f:Nat):Nat->List Bool:= @Nat.rec (fun _=>Nat->List Bool) (fun _=>[]) (fun _ ih n=> @Bool.rec (fun _=>List Bool) (List.cons (Nat.beq (Nat.mod n 2) 1)<|ih<|Nat.div (Nat.pred n) 2) []<|Nat.beq n 0) f
theorem CW{α:Type}(a b:α)(c:Bool): @Bool.rec (fun _=>α) a b c=if c=true then b else a:=by cases c<;>rfl
theorem beq_eq(n m:Nat):(Nat.beq n m=true)=(n=m):=by rw[Nat.beq_eq]
theorem zP(f n:Nat):path (f+1) n=if n=0 then[] else(Nat.beq (n % 2) 1)::path f ((n - 1) / 2):=by show @Bool.rec (fun _=>List Bool) (List.cons (Nat.beq (n % 2) 1)<|path f<|(n - 1) / 2) [] (Nat.beq n 0)=_;simp only[CW,beq_eq]
theorem HY:∀(f n m:Nat),n+1<=2 ^ f->m+1<=2 ^ f->path f n=path f m->n=m
 |0,n,m,hn,hm,_=>by simp at hn hm;omega
 |f+1,n,m,hn,hm,h=>by
  rw[zP,zP] at h;have hp:2 ^ (f+1)=2*2 ^ f:=by rw[Nat.pow_succ];omega
  by_cases h0:n=0
  ·by_cases h1:m=0
   ·omega
   ·rw[if_pos h0,if_neg h1] at h;cases h
  ·by_cases h1:m=0
   ·rw[if_neg h0,if_pos h1] at h;cases h
   ·rw[if_neg h0,if_neg h1] at h;injection h with ha hb
    have:=HY f _ _ (by omega) (by omega) hb;have hq:(n % 2=1)=(m % 2=1):=by rw[←beq_eq, ←beq_eq,ha]
    have dk:n % 2=1↔m % 2=1:=by rw[hq]
    omega
def top:Nat:=549755813888
def Tr.get{α:Type}(t:Tr α)(n:Nat):Option α:=Tr.oh (path 40 n) t
def Tr.put{α:Type}(t:Tr α)(n:Nat)(v:Option α):Tr α:=Tr.ig v (path 40 n) t
theorem Tr.get_nil{α:Type}(n:Nat):(Tr.nil:Tr α).get n=none:=Tr.zX _
theorem GW:∀(f k n:Nat),n+1<2 ^ k->(path f n).length<k
 |0,k,n,h=>by
  have:k≠0:=by intro e;subst e;simp at h
  show 0<k;omega
 |f+1,k,n,h=>by
  rw[zP];have hk:k≠0:=by intro e;subst e;simp at h
  by_cases h0:n=0
  ·rw[if_pos h0];show 0<k;omega
  ·rw[if_neg h0];obtain⟨j,rfl⟩:∃j,k=j+1:=⟨k - 1,by omega⟩;have hp:2 ^ (j+1)=2*2 ^ j:=by rw[Nat.pow_succ];omega
   have:=GW f j ((n - 1) / 2) (by omega);simp only[List.length_cons];omega
theorem Hl:∀(f k n:Nat),k<=f->2 ^ k<=n+1->k<=(path f n).length
 |_,0,_,_,_=>Nat.zero_le _
 |0,k+1,_,h,_=>by omega
 |f+1,k+1,n,h,hn=>by
  have hp:2 ^ (k+1)=2*2 ^ k:=by rw[Nat.pow_succ];omega
  have h1:1<=2 ^ k:=Nat.one_le_two_pow;rw[zP,if_neg<|by omega];have:=Hl f k ((n - 1) / 2) (by omega) (by omega);simp only[List.length_cons];omega
theorem ID{n m:Nat}(h:n<top)(e:m≠n):path 40 m≠path 40 n:=by
 unfold top at h;by_cases hm:m+1<=2 ^ 40
 ·exact fun k=>e<|HY 40 m n hm (by omega) k
 ·intro k;have h1:=Hl 40 40 m (Nat.le_refl _) (by omega);have h2:=GW 40 40 n (by omega);rw[k] at h1;omega
theorem Tr.nU{α:Type}(t:Tr α)(n m:Nat)(v:Option α)(h:n<top):(t.put n v).get m=if m=n then v else t.get m:=by
 unfold Tr.get Tr.put;rw[Tr.Cv];by_cases e:m=n
 ·subst e;simp
 ·simp[e,ID h e]
theorem Tr.cV{α:Type}(t:Tr α)(n m:Nat)(v:Option α)(h:n<top)(_:m<top):(t.put n v).get m=if m=n then v else t.get m:=Tr.nU t n m v h
def Tr.fill{α:Type}(l:List α):Nat->Tr α->Tr α:= @List.rec α (fun _=>Nat->Tr α->Tr α) (fun _ t=>t) (fun x _ ih i t=>ih (Nat.succ i)<|t.put i<|some x) l
theorem Tr.CX{α:Type}:∀(l:List α) (i:Nat) (t:Tr α) (m:Nat),i+l.length<=top->m<top->
 (Tr.fill l i t).get m=if i<=m/\m<i+l.length then l[m - i]? else t.get m
 |[],i,t,m,_,_=>by show t.get m=_;simp;intro h1 h2;omega
 |x::l,i,t,m,h,hm=>by
  simp only[List.length_cons] at h;show(Tr.fill l (i+1)<|t.put i<|some x).get m=_;rw[Tr.CX l _ _ _ (by omega) hm,Tr.cV _ _ _ _ (by omega) hm];simp only[List.length_cons];by_cases h1:i+1<=m/\m<i+1+l.length
  ·have h2:i<=m/\m<i+(l.length+1):=by omega
   rw[if_pos h1,if_pos h2];obtain⟨k,rfl⟩:∃k,m=i+1+k:=⟨m - (i+1),by omega⟩;rw[show i+1+k - (i+1)=k from by omega,show i+1+k - i=k+1 from by omega];simp
  ·rw[if_neg h1];by_cases e:m=i
   ·subst e;simp
   ·have h2:¬(i<=m/\m<i+(l.length+1)):=by omega
    rw[if_neg e,if_neg h2]
theorem Tr.nS{α:Type}:∀(l:List α) (i:Nat) (t:Tr α) (m:Nat),i+l.length<=top->
 (Tr.fill l i t).get m=if i<=m/\m<i+l.length then l[m - i]? else t.get m
 |[],i,t,m,_=>by show t.get m=_;simp;intro h1 h2;omega
 |x::l,i,t,m,h=>by
  simp only[List.length_cons] at h;show(Tr.fill l (i+1)<|t.put i<|some x).get m=_;rw[Tr.nS l _ _ _ (by omega),Tr.nU _ _ _ _<|by omega];simp only[List.length_cons];by_cases h1:i+1<=m/\m<i+1+l.length
  ·have h2:i<=m/\m<i+(l.length+1):=by omega
   rw[if_pos h1,if_pos h2];obtain⟨k,rfl⟩:∃k,m=i+1+k:=⟨m - (i+1),by omega⟩;rw[show i+1+k - (i+1)=k from by omega,show i+1+k - i=k+1 from by omega];simp
  ·rw[if_neg h1];by_cases e:m=i
   ·subst e;simp
   ·have h2:¬(i<=m/\m<i+(l.length+1)):=by omega
    rw[if_neg e,if_neg h2]
end
end Go.Rn
namespace Go.Rn
def loose(b:Array Nat)(i j:Nat):Bool:= !((b.getD i 0).testBit j||(b.getD j 0).testBit i)
def Ak(ops:Array Oper):Prop:=∀(j:Nat) (o:Oper) (e:Edge),ops[j]? =some o->e∈o.after->Region.binds .any e=true->e.on<j
def Pw(ops:Array Oper):Prop:=∀(i j:Nat) (x y:Oper) (d:Tmp),i≠j->ops[i]? =some x->ops[j]? =some y->x.dst=some d->(d∈y.looksAt ops\/y.dst=some d)->loose (Region.before ops) i j=false
structure AL (ops:Array Oper):Prop where
 JO:Ak ops
 vh:Pw ops
def dN:Code->Prop
 | .seq a b=>dN a/\dN b
 | .cond _ a b=>dN a/\dN b
 | .block _ b=>dN b
 | .loop b=>dN b
 | .scope b=>dN b
 | .region _ ops draw=>draw=true->AL ops
 | .rangeFunc _ _ a b=>dN a/\dN b
 |_=>True
def Ay:Item->Prop
 | .code c=>dN c
 | .inLoop b=>dN b
 | .inScope b=>dN b
 |_=>True
def fx(l:List Item):Prop:=∀it∈l,Ay it
structure xp (dP:Option Code) (assign body:Code):Prop where
 dP:∀c,dP=some c->dN c
 assign:dN assign
 body:dN body
theorem fx.cons{it:Item}{l:List Item}(h:Ay it)(k:fx l):fx<|it::l:=by
 intro x hx;rcases List.mem_cons.1 hx with rfl|hx
 ·exact h
 ·exact k x hx
theorem fx.head{it:Item}{l:List Item}(h:fx<|it::l):Ay it:=h it List.mem_cons_self
theorem fx.tail{it:Item}{l:List Item}(h:fx<|it::l):fx l:=fun x hx=>h x<|List.mem_cons_of_mem _ hx
theorem fx.nil:fx []:=fun _ h=>by cases h
theorem Cw{id:Nat}:∀{k k':List Item},exitTo id k=some k'->fx k->fx k'
  |[],_,h,_=>by simp[exitTo] at h
  | it::k,k',h,hk=>by
    cases it<;>simp only[exitTo] at h<;>first
      |exact Cw h hk.tail
      | (split at h
         · injection h with h;subst h;exact hk.tail
         · exact Cw h hk.tail)
theorem Mq{l:Nat}:∀{c r:Code},findLabel c l=some r->dN c->dN r:=by
 intro c;induction c with
 |seq a b tE tF=>
  intro r h hc;simp only[findLabel] at h;cases e:findLabel a l with
  |some q=>rw[e] at h;injection h with h;subst h;exact⟨tE e hc.1,hc.2⟩
  |none=>rw[e] at h;exact tF h hc.2
 |label l'=>
  intro r h _;simp only[findLabel] at h;split at h
  ·injection h with h;subst h;trivial
  ·cases h
 |_=>intro r h _;simp[findLabel] at h
theorem Cx{l:Nat}:∀{k k':List Item},gotoIn l k=some k'->fx k->fx k'
 |[],_,h,_=>by simp[gotoIn] at h
 |it::k,k',h,hk=>by
  cases it<;>simp only[gotoIn] at h<;>first
   |exact Cx h hk.tail
   |skip
  rename_i body;cases e:findLabel body l with
  |some q=>rw[e] at h;injection h with h;subst h;exact .cons (Mq e hk.head) hk
  |none=>rw[e] at h;exact Cx h hk.tail
end Go.Rn
namespace Go.Rn
inductive aZ where
 |known (c:Nat)
 |aU (lo e:Nat)
 |lost
 deriving Inhabited,DecidableEq
inductive AV where
 |bool (b:Bool)
 |int (k:IntKind) (n:Int)
 |str (s:ByteArray)
 |ptr (a:Option<|Nat×Nat)
 |slice (a:Option<|Nat×Nat) (len:Nat) (cap:aZ)
 |ch (n o len:Nat)
 |kz (n o:Nat)
 |map (r:Option Nat)
 |func (fn:Fn) (first captured:List AV)
 |yield (l:Nat)
 |nilFunc
 |iface (t:TypeId) (v:AV)
 |nilIface
 |agg (cells:List AV)
 |tuple (vs:List AV)
 |ph (n:Nat)
 deriving Inhabited
abbrev aj:=Nat->Option (Nat×Nat)
def aj.le(ρ σ:aj):Prop:=∀n x,ρ n=some x->σ n=some x
theorem aj.le_refl(ρ:aj):ρ.le ρ:=fun _ _ h=>h
theorem aj.le_trans{ρ σ τ:aj}(h:ρ.le σ)(k:σ.le τ):ρ.le τ:=fun n x e=>k n x<|h n x e
def IE:Fn->Bool
 | .yield _=>false
 |_=>true
def pr(a b:Nat):Nat:=2 ^ a*(2*b+1)
theorem de:∀{a b c d:Nat},pr a b=pr c d->a=c/\b=d
 |0,b,0,d,h=>by unfold pr at h;omega
 |0,b,c+1,d,h=>by
  unfold pr at h;have e:2 ^ (c+1)*(2*d+1)=2*(2 ^ c*(2*d+1)):=by rw[Nat.pow_succ,Nat.mul_comm (2 ^ c) 2,Nat.mul_assoc]
  rw[e] at h;omega
 |a+1,b,0,d,h=>by
  unfold pr at h;have e:2 ^ (a+1)*(2*b+1)=2*(2 ^ a*(2*b+1)):=by rw[Nat.pow_succ,Nat.mul_comm (2 ^ a) 2,Nat.mul_assoc]
  rw[e] at h;omega
 |a+1,b,c+1,d,h=>by
  have e1:pr (a+1) b=2*pr a b:=by unfold pr;rw[Nat.pow_succ,Nat.mul_comm (2 ^ a) 2,Nat.mul_assoc]
  have e2:pr (c+1) d=2*pr c d:=by unfold pr;rw[Nat.pow_succ,Nat.mul_comm (2 ^ c) 2,Nat.mul_assoc]
  obtain⟨h1,h2⟩:=de (a:=a) (b:=b) (c:=c) (d:=d) (by omega);exact⟨by omega,h2⟩
def hn(n b sh:Nat):Nat:=top+pr n (pr b sh)
theorem fI(n b sh:Nat):top<=hn n b sh:=Nat.le_add_right _ _
theorem Dy{n b sh n' b' E1:Nat}(h:hn n b sh=hn n' b' E1):n=n'/\b=b'/\sh=E1:=by unfold hn at h;obtain⟨h1,h2⟩:=de (show pr n (pr b sh)=pr n' (pr b' E1) by omega);exact⟨h1,de h2⟩
def mg(ρ:aj)(n b sh:Nat):Prop:=(¬top<=n/\ρ n=some (b,sh))\/(top<=n/\ρ (hn n b sh)≠none)
theorem mg.high{ρ:aj}{n b sh:Nat}(h:mg ρ n b sh)(ht:top<=n):ρ (hn n b sh)≠none:=h.elim (fun h=>absurd ht h.1) fun h=>h.2
theorem mg.low{ρ:aj}{n b sh:Nat}(h:mg ρ n b sh)(ht:¬top<=n):ρ n=some (b,sh):=h.elim (fun h=>h.2) fun h=>absurd h.1 ht
theorem mg.mono{ρ σ:aj}(h:ρ.le σ){n b sh:Nat}:mg ρ n b sh->mg σ n b sh
  | .inl ⟨a,b⟩=>.inl ⟨a,h _ _ b⟩
  | .inr ⟨a,b⟩=>.inr ⟨a,fun e=>b (by
    cases q:ρ (hn n _ sh) with
    |none=>rfl
    |some x=>rw[h _ _ q] at e;cases e)⟩
def Ta(n:Nat)(a:Option Addr)(c:Nat):Prop:=(a=none->c=0)/\(n=top->a=none)/\(n=top+1->a≠none)
mutual
def VR(ρ:aj):AV->Value->Prop
 | .bool b,v=>v= .bool b
 | .int k n,v=>v= .int k n
 | .str s,v=>v= .string s
 | .ptr none,v=>v= .pointer none
 | .ptr (some (n,o)),v=>∃b N,ρ n=some (b,N)/\v= .pointer (some ⟨b,o,none⟩)
 | .slice none len (.known c),v=>v= .slice none len c/\len=0/\c=0
 | .slice none _ (.aU _ _),_=>False
 | .slice none _ .lost,_=>False
 | .slice (some (n,_)) len .lost,v=>len=0/\∃b N o c,ρ n=some (b,N)/\v= .slice (some ⟨b,o,none⟩) 0 c
 | .slice (some (n,o)) len (.known c),v=>∃b N,ρ n=some (b,N)/\v= .slice (some ⟨b,o,none⟩) len c
 | .slice (some (n,o)) len (.aU lo e),v=>∃b N c,ρ n=some (b,N)/\v= .slice (some ⟨b,o,none⟩) len c/\lo<=c/\len<=c/\o+c*e<=N
 | .ch n o len,v=>(top<=n/\len=0/\∃a c,v= .slice a 0 c/\Ta n a c)\/∃b sh c,mg ρ n b sh/\v= .slice (some ⟨b,sh+o,none⟩) len c/\(top<=n->len<=c/\n≠top)
 | .kz n o,v=>∃b sh,mg ρ n b sh/\v= .pointer (some ⟨b,sh+o,none⟩)
 | .map none,v=>v= .map none
 | .map (some n),v=>∃b N,ρ n=some (b,N)/\v= .map (some b)
 | .func fn first captured,v=>IE fn=true/\∃f c,v= .func fn f c/\av ρ first f.toList/\av ρ captured c.toList
 | .yield l,v=>∃b N,ρ l=some (b,N)/\v= .func (.yield b) #[] #[]
 | .nilFunc,v=>v= .nilFunc
 | .iface t x,v=>∃y,v= .iface t y/\VR ρ x y
 | .nilIface,v=>v= .nilIface
 | .agg l,v=>∃a,v= .agg a/\av ρ l a.toList
 | .tuple l,v=>∃a,v= .tuple a/\av ρ l a.toList
 | .ph n,v=>v= .string ⟨(List.replicate n (0:UInt8)).toArray⟩
def av(ρ:aj):List AV->List Value->Prop
 |[],l=>l=[]
 |x::xs,l=>∃y ys,l=y::ys/\VR ρ x y/\av ρ xs ys
end
mutual
theorem VR.mono{ρ σ:aj}(h:ρ.le σ):∀(x:AV) (v:Value),VR ρ x v->VR σ x v
 | .bool _,_,k=>by simpa only[VR] using k
 | .int _ _,_,k=>by simpa only[VR] using k
 | .str _,_,k=>by simpa only[VR] using k
 | .ph _,_,k=>by simpa only[VR] using k
 | .ptr none,_,k=>by simpa only[VR] using k
 | .ptr (some (n,o)),_,k=>by simp only[VR] at k ⊢;obtain⟨b,N,e,r⟩:=k;exact⟨b,N,h _ _ e,r⟩
 | .slice none len (.known c),_,k=>by simpa only[VR] using k
 | .slice none _ (.aU _ _),_,k=>by simp only[VR] at k
 | .slice none _ .lost,_,k=>by simp only[VR] at k
 | .slice (some (n,o)) len .lost,_,k=>by simp only[VR] at k ⊢;obtain⟨l,b,N,p,c,e,r⟩:=k;exact⟨l,b,N,p,c,h _ _ e,r⟩
 | .slice (some (n,o)) len (.known c),_,k=>by simp only[VR] at k ⊢;obtain⟨b,N,e,r⟩:=k;exact⟨b,N,h _ _ e,r⟩
 | .slice (some (n,o)) len (.aU lo e),_,k=>by simp only[VR] at k ⊢;obtain⟨b,N,c,e,r⟩:=k;exact⟨b,N,c,h _ _ e,r⟩
 | .ch n o len,_,k=>by simp only[VR] at k ⊢;rcases k with k|⟨b,sh,c,e,r⟩;exact .inl k;exact .inr ⟨b,sh,c,e.mono h,r⟩
 | .kz n o,_,k=>by simp only[VR] at k ⊢;obtain⟨b,sh,e,r⟩:=k;exact⟨b,sh,e.mono h,r⟩
 | .map none,_,k=>by simpa only[VR] using k
 | .map (some n),_,k=>by simp only[VR] at k ⊢;obtain⟨b,N,e,r⟩:=k;exact⟨b,N,h _ _ e,r⟩
 | .func fn first captured,_,k=>by simp only[VR] at k ⊢;obtain⟨p,f,c,e,r,s⟩:=k;exact⟨p,f,c,e,av.mono h _ _ r,av.mono h _ _ s⟩
 | .yield l,_,k=>by simp only[VR] at k ⊢;obtain⟨b,N,e,r⟩:=k;exact⟨b,N,h _ _ e,r⟩
 | .nilFunc,_,k=>by simpa only[VR] using k
 | .iface t x,_,k=>by simp only[VR] at k ⊢;obtain⟨y,e,r⟩:=k;exact⟨y,e,VR.mono h _ _ r⟩
 | .nilIface,_,k=>by simpa only[VR] using k
 | .agg l,_,k=>by simp only[VR] at k ⊢;obtain⟨a,e,r⟩:=k;exact⟨a,e,av.mono h _ _ r⟩
 | .tuple l,_,k=>by simp only[VR] at k ⊢;obtain⟨a,e,r⟩:=k;exact⟨a,e,av.mono h _ _ r⟩
theorem av.mono{ρ σ:aj}(h:ρ.le σ):∀(x:List AV) (v:List Value),av ρ x v->av σ x v
 |[],_,k=>by simpa only[av] using k
 |x::xs,_,k=>by simp only[av] at k ⊢;obtain⟨y,ys,e,r,s⟩:=k;exact⟨y,ys,e,VR.mono h _ _ r,av.mono h _ _ s⟩
end
theorem av.length{ρ:aj}:∀{x:List AV} {v:List Value},av ρ x v->x.length=v.length
 |[],_,k=>by simp only[av] at k;subst k;rfl
 |x::xs,_,k=>by simp only[av] at k;obtain⟨y,ys,rfl,_,s⟩:=k;simp[av.length s]
theorem av.get{ρ:aj}:∀{x:List AV} {v:List Value},av ρ x v->∀(i:Nat) (a:AV),x[i]? =some a->∃b,v[i]? =some b/\VR ρ a b
 |[],_,_,_,_,h=>by simp at h
 |x::xs,_,k,i,a,h=>by
  simp only[av] at k;obtain⟨y,ys,rfl,r,s⟩:=k;cases i with
  |zero=>simp at h;subst h;exact⟨y,rfl,r⟩
  |succ i=>simp at h;obtain⟨b,hb,hr⟩:=av.get s i a h;exact⟨b,by simpa using hb,hr⟩
theorem av.append{ρ:aj}:∀{x:List AV} {v:List Value} {x':List AV} {v':List Value},av ρ x v->av ρ x' v'->av ρ (x++x') (v++v')
 |[],_,_,_,k,h=>by simp only[av] at k;subst k;simpa using h
 |x::xs,_,_,_,k,h=>by simp only[av] at k;obtain⟨y,ys,rfl,r,s⟩:=k;simp only[List.cons_append,av];exact⟨y,_,rfl,r,av.append s h⟩
theorem av.Dz{ρ:aj}:∀(x:List AV) (v:List Value),x.length=v.length->(∀(i:Nat) (a:AV) (b:Value),x[i]? =some a->v[i]? =some b->VR ρ a b)->av ρ x v
 |[],[],_,_=>by simp only[av]
 |[],_::_,h,_=>by simp at h
 |_::_,[],h,_=>by simp at h
 |x::xs,y::ys,h,k=>by simp only[av];exact⟨y,ys,rfl,k 0 x y rfl rfl,av.Dz xs ys (by simpa using h) fun i a b ha hb=>k (i+1) a b (by simpa using ha)<|by simpa using hb⟩
theorem av.take{ρ:aj}:∀(n:Nat) {x:List AV} {v:List Value},av ρ x v->av ρ (x.take n) (v.take n)
 |0,_,_,_=>by simp[av]
 |n+1,[],_,k=>by simp only[av] at k;subst k;simp[av]
 |n+1,x::xs,_,k=>by simp only[av] at k;obtain⟨y,ys,rfl,r,s⟩:=k;simp only[List.take_succ_cons,av];exact⟨y,_,rfl,r,av.take n s⟩
theorem av.drop{ρ:aj}:∀(n:Nat) {x:List AV} {v:List Value},av ρ x v->av ρ (x.drop n) (v.drop n)
 |0,_,_,k=>by simpa using k
 |n+1,[],_,k=>by simp only[av] at k;subst k;simp[av]
 |n+1,x::xs,_,k=>by simp only[av] at k;obtain⟨y,ys,rfl,r,s⟩:=k;simpa using av.drop n s
def jN:AV:=.tuple []
theorem VR.undef(ρ:aj):VR ρ jN Go.undef:=by simp only[jN,Go.undef,VR,av];exact⟨#[],rfl,rfl⟩
def AV.cells:AV->List AV
 | .agg l=>l
 |v=>[v]
theorem VR.cells{ρ:aj}{x:AV}{v:Value}(h:VR ρ x v):av ρ x.cells v.cells.toList:=by
 cases x<;>(try (simp only[VR] at h;subst h;simp only[AV.cells,Value.cells,av,VR];exact⟨_,_,rfl,rfl,rfl⟩))
 case ptr a=>
  cases a with
  |none=>simp only[VR] at h;subst h;simp only[AV.cells,Value.cells,av,VR];exact⟨_,_,rfl,rfl,rfl⟩
  |some a=>obtain⟨n,o⟩:=a;have h':=h;simp only[VR] at h';obtain⟨b,N,_,rfl⟩:=h';simp only[AV.cells,Value.cells,av];exact⟨_,_,rfl,h,rfl⟩
 case slice a len cap=>
  have:∃p q r,v= .slice p q r:=by
   cases a with
   |none=>cases cap<;>simp only[VR] at h;exact⟨_,_,_,h.1⟩
   |some a=>
    obtain⟨n,o⟩:=a;cases cap<;>simp only[VR] at h
    ·obtain⟨b,N,_,rfl⟩:=h;exact⟨_,_,_,rfl⟩
    ·obtain⟨b,N,c,_,rfl,_⟩:=h;exact⟨_,_,_,rfl⟩
    ·obtain⟨_,b,N,p,c,_,rfl⟩:=h;exact⟨_,_,_,rfl⟩
  obtain⟨p,q,r,rfl⟩:=this;simp only[AV.cells,Value.cells,av];exact⟨_,_,rfl,h,rfl⟩
 case ch n o len=>
  have h':=h;simp only[VR] at h';rcases h' with⟨_,_,_,_,rfl,_⟩|⟨b,sh,c,_,rfl,_⟩<;>
  (simp only[AV.cells,Value.cells,av];exact⟨_,_,rfl,h,rfl⟩)
 case kz n o=>have h':=h;simp only[VR] at h';obtain⟨b,sh,_,rfl⟩:=h';simp only[AV.cells,Value.cells,av];exact⟨_,_,rfl,h,rfl⟩
 case map a=>
  cases a with
  |none=>simp only[VR] at h;subst h;simp only[AV.cells,Value.cells,av,VR];exact⟨_,_,rfl,rfl,rfl⟩
  |some a=>have h':=h;simp only[VR] at h';obtain⟨b,N,_,rfl⟩:=h';simp only[AV.cells,Value.cells,av];exact⟨_,_,rfl,h,rfl⟩
 case func fn f c=>have h':=h;simp only[VR] at h';obtain⟨_,_,_,rfl,_⟩:=h';simp only[AV.cells,Value.cells,av];exact⟨_,_,rfl,h,rfl⟩
 case yield l=>have h':=h;simp only[VR] at h';obtain⟨_,_,_,rfl⟩:=h';simp only[AV.cells,Value.cells,av];exact⟨_,_,rfl,h,rfl⟩
 case iface t x=>have h':=h;simp only[VR] at h';obtain⟨_,rfl,_⟩:=h';simp only[AV.cells,Value.cells,av];exact⟨_,_,rfl,h,rfl⟩
 case agg l=>simp only[VR] at h;obtain⟨a,rfl,k⟩:=h;simpa only[AV.cells,Value.cells] using k
 case tuple l=>have h':=h;simp only[VR] at h';obtain⟨_,rfl,_⟩:=h';simp only[AV.cells,Value.cells,av];exact⟨_,_,rfl,h,rfl⟩
def AV.bu:AV->Bool
 | .agg _| .tuple _=>false
 |_=>true
theorem VR.bu{ρ:aj}{x:AV}{v:Value}(h:VR ρ x v)(hx:x.bu=true):∀cs,v≠ .agg cs/\v≠ .tuple cs:=by
 intro cs;cases x<;>(try (simp only[VR] at h;subst h;simp;done))<;>(try (simp[AV.bu] at hx;done))
 case ptr a=>
  cases a with
  |none=>simp only[VR] at h;subst h;simp
  |some a=>obtain⟨n,o⟩:=a;simp only[VR] at h;obtain⟨_,_,_,rfl⟩:=h;simp
 case slice a len cap=>
  cases a with
  |none=>cases cap<;>simp only[VR] at h;rw[h.1];simp
  |some a=>
   obtain⟨n,o⟩:=a;cases cap<;>simp only[VR] at h
   ·obtain⟨_,_,_,rfl⟩:=h;simp
   ·obtain⟨_,_,_,_,rfl,_⟩:=h;simp
   ·obtain⟨_,_,_,_,_,_,rfl⟩:=h;simp
 case ch n o len=>simp only[VR] at h;rcases h with⟨_,_,_,_,rfl,_⟩|⟨_,_,_,_,rfl,_⟩<;>simp
 case kz n o=>simp only[VR] at h;obtain⟨_,_,_,rfl⟩:=h;simp
 case map a=>
  cases a with
  |none=>simp only[VR] at h;subst h;simp
  |some a=>simp only[VR] at h;obtain⟨_,_,_,rfl⟩:=h;simp
 case func fn f c=>simp only[VR] at h;obtain⟨_,_,_,rfl,_⟩:=h;simp
 case yield l=>simp only[VR] at h;obtain⟨_,_,_,rfl⟩:=h;simp
 case iface t x=>simp only[VR] at h;obtain⟨_,rfl,_⟩:=h;simp
inductive U where
 |cells (n:Nat) (t:Tr AV) (z:List AV)
 |map (es:List<|AV×AV) (aM:Nat)
 |cW (es:List<|AV×AV)
 |loop (st:LoopState) (dP:Option Code) (fn:FuncId) (tmps:Tr AV) (nt:Nat) (params:List Tmp) (assign body:Code) (defers:Nat)
 |defs
 |ro (n:Nat) (t:Tr AV)
 |nf (n:Nat) (t:Tr AV)
 |se (s:ByteArray) (pos:Nat)
 |iter (m:Nat) (es:List<|AV×AV) (exact:Bool) (left:List<|AV×AV) (cur:Option<|AV×AV)
 |fp
 |tok (k:Nat) (v:AV)
 deriving Inhabited
noncomputable def cellAt(t:Tr AV)(z:List AV)(i:Nat):Option AV:=
 match t.get i with
 |some v=>some v
 |none=>z[i % z.length]?
def U.bQ:U->Bool
 | .ro _ _=>true
 | .nf _ _=>true
 | .tok _ _=>true
 |_=>false
def U.kA:U->Bool
 | .ro _ _=>true
 | .nf _ _=>true
 |_=>false
theorem U.iQ:∀{o:U},o.kA=true->o.bQ=true
 | .ro _ _,_=>rfl
 | .nf _ _,_=>rfl
 | .cells _ _ _,h=>by cases h
 | .map _ _,h=>by cases h
 | .cW _,h=>by cases h
 | .loop _ _ _ _ _ _ _ _ _,h=>by cases h
 | .defs,h=>by cases h
 | .se _ _,h=>by cases h
 | .iter _ _ _ _ _,h=>by cases h
 | .fp,h=>by cases h
 | .tok _ _,h=>by cases h
def TR(ρ:aj)(nt:Nat)(t:Tr AV)(a:Array Value):Prop:=a.size=nt/\∀i x,t.get i=some x->VR ρ x (a.getD i Go.undef)
theorem TR.mono{ρ σ:aj}(h:ρ.le σ){nt:Nat}{t:Tr AV}{a:Array Value}(k:TR ρ nt t a):TR σ nt t a:=⟨k.1,fun i x e=>VR.mono h _ _<|k.2 i x e⟩
theorem TR.set{ρ:aj}{nt:Nat}{t:Tr AV}{a:Array Value}(k:TR ρ nt t a){d:Nat}{x:AV}{v:Value}(hd:d<nt)(ht:nt<=top)(h:VR ρ x v):
 TR ρ nt (t.put d<|some x) (a.setIfInBounds d v):=by
 refine⟨by simp[k.1],fun i y hy=>?_⟩;rw[Tr.nU _ _ _ _<|by omega] at hy;by_cases e:i=d
 ·subst e;have:(a.setIfInBounds i v).getD i Go.undef=v:=by rw[Array.getD_eq_getD_getElem?,Array.getElem?_setIfInBounds_self_of_lt (by rw[k.1];exact hd)];rfl
  rw[if_pos rfl] at hy;injection hy with hy;subst hy
  rw[this];exact h
 ·have:(a.setIfInBounds d v).getD i Go.undef=a.getD i Go.undef:=by rw[Array.getD_eq_getD_getElem?,Array.getElem?_setIfInBounds_ne (by omega), ←Array.getD_eq_getD_getElem?]
  rw[if_neg e] at hy;rw[this];exact k.2 i y hy
def fq(ρ:aj):List (AV×AV)->List MapEntry->Nat->Prop
 |[],l,_=>l=[]
 |x::xs,l,i=>∃e es,l=e::es/\VR ρ x.1 e.key/\VR ρ x.2 e.val/\e.born=i/\fq ρ xs es (i+1)
theorem fq.mono{ρ σ:aj}(h:ρ.le σ):∀(x:List<|AV×AV) (l:List MapEntry) (i:Nat),fq ρ x l i->fq σ x l i
 |[],_,_,k=>k
 |x::xs,_,i,k=>by obtain⟨e,es,r,a,b,c,d⟩:=k;exact⟨e,es,r,VR.mono h _ _ a,VR.mono h _ _ b,c,fq.mono h xs es _ d⟩
def cH(ρ:aj):List (AV×AV)->List MapEntry->Prop
 |[],l=>l=[]
 |x::xs,l=>∃e es,l=e::es/\VR ρ x.1 e.key/\VR ρ x.2 e.val/\cH ρ xs es
theorem cH.mono{ρ σ:aj}(h:ρ.le σ):∀(x:List<|AV×AV) (l:List MapEntry),cH ρ x l->cH σ x l
 |[],_,k=>k
 |x::xs,_,k=>by obtain⟨e,es,r,a,b,d⟩:=k;exact⟨e,es,r,VR.mono h _ _ a,VR.mono h _ _ b,cH.mono h xs es d⟩
theorem fq.eqs{ρ:aj}:∀{x:List<|AV×AV} {l:List MapEntry} {i:Nat},fq ρ x l i->cH ρ x l
 |[],_,_,k=>k
 |_::_,_,_,k=>by obtain⟨e,es,r,a,b,_,d⟩:=k;exact⟨e,es,r,a,b,d.eqs⟩
def my(ρ:aj)(es:List<|AV×AV)(l:List MapEntry):Prop:=∃l',l.Perm l'/\cH ρ es l'
theorem my.mono{ρ σ:aj}(h:ρ.le σ){x:List<|AV×AV}{l:List MapEntry}(k:my ρ x l):my σ x l:=by obtain⟨l',p,n⟩:=k;exact⟨l',p,n.mono h⟩
def sameKey:AV->AV->Option Bool
 | .int k a,.int k' b=>match decide (k=k') with
  |true=>some<|a == b
  |false=>none
 | .str a,.str b=>some<|a == b
 | .bool a,.bool b=>some<|a == b
 |_,_=>none
def gz(es:List<|AV×AV):Prop:=es.Pairwise fun a b=>sameKey a.1 b.1=some false/\sameKey b.1 a.1=some false
def l4(l:List MapEntry)(aM:Nat):Prop:=(l.map (·.born)).Nodup/\∀e∈l,e.born<aM
def OR(ρ:aj)(N:Nat):U->Obj->Prop
 | .cells n t z,o=>∃c e,o= .cells c e (0,0)/\c.size=N/\n<=N/\∀i,i<n->∃x v,cellAt t z i=some x/\x.bu=true/\c[i]? =some v/\VR ρ x v
 | .map es aM,o=>∃l,o= .map l aM/\aM=es.length/\fq ρ es l.toList 0
 | .cW es,o=>∃l aM,o= .map l aM/\gz es/\l4 l.toList aM/\my ρ es l.toList
 | .loop st dP fn tmps nt params assign body defers,o=>∃a b M,o= .loop {state:=st,pending:=dP,fn,tmps:=a,params:=params.toArray,assign,body,defers:=b}/\TR ρ nt tmps a/\nt<=top/\ρ defers=some (b,M)/\xp dP assign body
 | .defs,o=>o= .deferred (some [])
 | .ro n t,o=>∃c e fr,o= .cells c e fr/\c.size=N/\n=N/\∀i,i<n->∃x v,t.get i=some x/\x.bu=true/\c[i]? =some v/\VR ρ x v
 | .nf n t,o=>∃c e fr,o= .cells c e fr/\∀i,i<n->∃x v,t.get i=some x/\x.bu=true/\c[N+i]? =some v/\VR ρ x v
 | .se s pos,o=>o= .stringIter s pos
 | .iter m _ _ _ _,o=>∃b M c s,ρ m=some (b,M)/\o= .mapIter (some b) c s c
 | .fp,o=>∃l aM,o= .map l aM
 | .tok _ _,_=>True
theorem OR.mono{ρ σ:aj}(h:ρ.le σ){N:Nat}{x:U}{o:Obj}(k:OR ρ N x o):OR σ N x o:=by
 cases x<;>simp only[OR] at k ⊢
 case cells n t z=>obtain⟨c,e,r,s,u,f⟩:=k;exact⟨c,e,r,s,u,fun i hi=>let ⟨x,v,a,b,d,q⟩:=f i hi;⟨x,v,a,b,d,VR.mono h _ _ q⟩⟩
 case map es aM=>obtain⟨l,r,c,s⟩:=k;exact⟨l,r,c,fq.mono h _ _ _ s⟩
 case cW es=>obtain⟨l,c,r,a,b,s⟩:=k;exact⟨l,c,r,a,b,s.mono h⟩
 case loop st dP fn tmps nt params assign body defers=>obtain⟨a,b,M,r,s,q,u,v⟩:=k;exact⟨a,b,M,r,s.mono h,q,h _ _ u,v⟩
 case defs=>exact k
 case ro n t=>obtain⟨c,e,q,r,s,u,f⟩:=k;exact⟨c,e,q,r,s,u,fun i hi=>let ⟨x,v,a,b,d,q⟩:=f i hi;⟨x,v,a,b,d,VR.mono h _ _ q⟩⟩
 case nf n t=>obtain⟨c,e,q,r,f⟩:=k;exact⟨c,e,q,r,fun i hi=>let ⟨x,v,a,b,d,q⟩:=f i hi;⟨x,v,a,b,d,VR.mono h _ _ q⟩⟩
 case se s pos=>exact k
 case iter m es ex left cur=>obtain⟨b,M,c,s,r,q⟩:=k;exact⟨b,M,c,s,h _ _ r,q⟩
 case fp=>exact k
def jr(ρ:aj)(w:World)(n m:Nat)(es:List<|AV×AV)(exact:Bool)(left:List<|AV×AV)(cur:Option<|AV×AV):Prop:=
 ∃b N bm M l aM seen,ρ n=some (b,N)/\ρ m=some (bm,M)/\w.heap[b]? =some (.mapIter (some bm) aM seen aM)/\w.heap[bm]? =some (.map l aM)/\
  l4 l.toList aM/\(exact=true->aM=es.length/\fq ρ es l.toList 0)/\(exact=false->gz es/\my ρ es l.toList)/\
  my ρ left (l.toList.filter fun e=> !seen.contains e.born)/\
  (match cur with
  |none=>seen= #[]
  |some x=>∃e,e∈l.toList/\seen.back?=some e.born/\VR ρ x.1 e.key/\VR ρ x.2 e.val)
theorem jr.mono{ρ σ:aj}(h:ρ.le σ){w:World}{n m:Nat}{es:List<|AV×AV}{ex:Bool}{left:List<|AV×AV}{cur:Option<|AV×AV}(k:jr ρ w n m es ex left cur):jr σ w n m es ex left cur:=by
 obtain⟨b,N,bm,M,l,aM,seen,h1,h2,h3,h4,h5,h6,h7,h8,h9⟩:=k;refine⟨b,N,bm,M,l,aM,seen,h _ _ h1,h _ _ h2,h3,h4,h5,fun e=>⟨(h6 e).1,(h6 e).2.mono h⟩,fun e=>⟨(h7 e).1,(h7 e).2.mono h⟩,h8.mono h,?_⟩;cases cur with
 |none=>exact h9
 |some x=>obtain⟨e,a,b,c,d⟩:=h9;exact⟨e,a,b,VR.mono h _ _ c,VR.mono h _ _ d⟩
structure aH where
 may:Nat->Prop
 F:Nat->Option (List AV)
 bJ:Nat->Prop
 inv:Nat->AV->aj->World->Nat->(Nat->Prop)->Prop
 pI:Nat
 mono:∀{k v ρ σ w w' b H},inv k v ρ w b H->(∀m x,top<=m->ρ m=some x->σ m=some x)->(∀x,H x->w'.heap[x]? =w.heap[x]?)->inv k v σ w' b H
def Qi(W:World):aH:=⟨fun k=>W.heap.size<=k,fun _=>none,fun _=>True,fun _ _ _ _ _ _=>False,W.heap.size,fun h _ _=>h⟩
def jE(ρ:aj)(h:Tr U)(b:Nat):Prop:=∀m o N,m<top->h.get m=some o->o.bQ=false->ρ m≠some (b,N)
def eL(ρ:aj):aj:=fun k=>if top<=k then ρ k else none
theorem DA(ρ:aj):(eL ρ).le ρ:=by
 intro k x e;unfold eL at e;split at e
 ·exact e
 ·cases e
theorem HZ{ρ σ:aj}(h:ρ.le σ):(eL ρ).le<|eL σ:=by
 intro k x e;unfold eL at e ⊢;split at e
 ·rename_i q;rw[if_pos q];exact h _ _ e
 ·cases e
def Fz(B:aH)(ρ:aj)(h:Tr U)(w:World):Prop:=∀n b sh,ρ (hn n b sh)≠none->(B.bJ (hn n b sh)\/B.may b)/\∃l c e fr,B.F n=some l/\w.heap[b]? =some (.cells c e fr)/\jE ρ h b/\∀i x,l[i]? =some x->∃v,c[sh+i]? =some v/\VR (eL ρ) x v/\x.bu=true
def ov(B:aH)(ρ:aj)(h:Tr U)(w:World):Prop:=(B.pI<=w.heap.size/\∀m o,m<top->h.get m=some o->o.kA=true->∃b N,ρ m=some (b,N)/\b<B.pI)/\∃H:Nat->Nat->Prop,(∀n k v,n<top->h.get n=some (.tok k v)->∃b N,ρ n=some (b,N)/\B.inv k v ρ w b (H n)/\H n b/\∀x,H n x->(x<w.heap.size/\B.pI<=x)/\B.may x/\jE ρ h x/\∀j sh,ρ (hn j x sh)=none)/\∀n m x k v k' v',n<top->m<top->h.get n=some (.tok k v)->h.get m=some (.tok k' v')->n≠m->H n x->¬H m x
theorem ov.of{B:aH}{ρ σ:aj}{h h':Tr U}{w w':World}(f:ov B ρ h w)(hl:ρ.le σ)(ht:∀n o,n<top->h'.get n=some o->o.bQ=true->h.get n=some o)(hs:w.heap.size<=w'.heap.size)(hw:∀b,b<w.heap.size->jE ρ h b->w'.heap[b]? =w.heap[b]?)(hd:∀b,b<w.heap.size->jE ρ h b->jE σ h' b)(hm:∀j x sh,x<w.heap.size->jE ρ h x->ρ (hn j x sh)=none->σ (hn j x sh)=none):ov B σ h' w':=by
 obtain⟨h0,H,h1,h2⟩:=f;refine⟨⟨Nat.le_trans h0.1 hs,fun m o da hg hf=>?_⟩,H,fun n k v hn hg=>?_,fun n m x k v k' v' hn da g1 g2=>h2 n m x k v k' v' hn da (ht _ _ hn g1 rfl)<|ht _ _ da g2 rfl⟩
 ·obtain⟨b,N,e1,e2⟩:=h0.2 m o da (ht _ _ da hg<|U.iQ hf) hf;exact⟨b,N,hl _ _ e1,e2⟩
 obtain⟨b,N,a1,a2,a3,a4⟩:=h1 n k v hn<|ht _ _ hn hg rfl;refine⟨b,N,hl _ _ a1,B.mono a2 (fun m x _ e=>hl _ _ e) fun x hx=>?_,a3,fun x hx=>?_⟩
 ·obtain⟨⟨c1,_⟩,_,c3,_⟩:=a4 x hx;exact hw x c1 c3
 ·obtain⟨⟨c1,cl⟩,c2,c3,c4⟩:=a4 x hx;exact⟨⟨Nat.lt_of_lt_of_le c1 hs,cl⟩,c2,hd x c1 c3,fun j sh=>hm j x sh c1 c3<|c4 j sh⟩
theorem ov.no{B:aH}{ρ:aj}{h:Tr U}{w:World}(hn:∀n k v,n<top->h.get n=some (.tok k v)->False)(hl:B.pI<=w.heap.size/\∀m o,m<top->h.get m=some o->o.kA=true->∃b N,ρ m=some (b,N)/\b<B.pI):ov B ρ h w:=⟨hl,fun _ _=>False,fun n k v ht hg=>(hn n k v ht hg).elim,fun n _ _ k v _ _ ht _ hg _ _ _=>(hn n k v ht hg).elim⟩
structure Rel (B:aH) (ρ:aj) (h:Tr U) (w:World):Prop where
 is:∀n o,n<top->h.get n=some o->∃b N o',ρ n=some (b,N)/\w.heap[b]? =some o'/\OR ρ N o o'/\(o.bQ=false->B.may b)
 one:∀n m o p b N M,n<top->m<top->h.get n=some o->h.get m=some p->(o.bQ=false\/p.bQ=false)->ρ n=some (b,N)->ρ m=some (b,M)->n=m
 iter:∀n m es ex left cur,n<top->h.get n=some (.iter m es ex left cur)->m<top/\h.get m=some .fp/\jr ρ w n m es ex left cur
 size:∀k,w.heap.size<=k->B.may k
 lone:∀i j m es ex left cur dT fM fB fD,i<top->j<top->h.get i=some (.iter m es ex left cur)->h.get j=some (.iter m dT fM fB fD)->i=j
 fz:Fz B ρ h w
 tk:ov B ρ h w
end Go.Rn
namespace Go.Rn
structure AS where
 h:Tr U
 nx:Nat
 mark:Nat
 rd:List Nat
 wr:List Nat
inductive R (α:Type) where
 |bad
 |ok (a:α) (s:AS)
def M(α:Type):Type:=AS->R α
noncomputable def M.pure{α:Type}(a:α):M α:=fun s=>.ok a s
noncomputable def M.bind{α β:Type}(m:M α)(f:α->M β):M β:=fun s=> @R.rec α (fun _=>R β) .bad (fun a s1=>f a s1)<|m s
noncomputable instance:Monad M where
 pure:=M.pure
 bind:=M.bind
noncomputable def fail{α:Type}:M α:=fun _=>.bad
noncomputable def lift{α:Type}(o:Option α):M α:=fun s=> @Option.rec α (fun _=>R α) .bad (fun a=>.ok a s) o
noncomputable def aG{α β:Type}(o:Option α)(f:α->M β):M β:=fun s=> @Option.rec α (fun _=>R β) .bad (fun a=>f a s) o
noncomputable def fL(b:Bool):M Unit:=fun s=> @Bool.rec (fun _=>R Unit) .bad (.ok () s) b
noncomputable def aB{β:Type}(b:Bool)(m:M β):M β:=fun s=> @Bool.rec (fun _=>R β) .bad (m s) b
noncomputable def forced{α:Type}(n:Nat)(k:Nat->α):α:= @Nat.rec (fun _=>α) (k 0) (fun m _=>k<|m+1) n
theorem qc{α:Type}(n:Nat)(k:Nat->α):forced n k=k n:=by cases n<;>rfl
noncomputable def a9(n:Nat):M U:=fun s=>
 @AS.rec (fun _=>R U) (fun h nx mark rd wr=>
  @Bool.rec (fun _=>R U) .bad
   (@Option.rec U (fun _=>R U) .bad
    (fun o=> @Bool.rec (fun _=>R U) (.ok o ⟨h,nx,mark,rd,wr⟩) (.ok o ⟨h,nx,mark,n::rd,wr⟩)<|Nat.blt n mark)
    (h.get n))
   (Nat.blt n nx)) s
noncomputable def ba(n:Nat)(o:Option U):M Unit:=fun s=>
 @AS.rec (fun _=>R Unit) (fun h nx mark rd wr=>
  @Bool.rec (fun _=>R Unit) .bad
   (@Option.rec U (fun _=>R Unit) .bad
    (fun p=> @Bool.rec (fun _=>R Unit)
     (@Bool.rec (fun _=>R Unit) (.ok () ⟨h.put n o,nx,mark,rd,wr⟩) (.ok () ⟨h.put n o,nx,mark,n::rd,n::wr⟩)<|Nat.blt n mark)
     .bad p.bQ)
    (h.get n))
   (and (Nat.blt n nx)<|Nat.blt n top)) s
noncomputable def cZ(o:U):M Nat:=fun s=> @AS.rec (fun _=>R Nat) (fun h nx mark rd wr=> @Bool.rec (fun _=>R Nat) .bad (forced nx fun m=>.ok m ⟨h.put m<|some o,m+1,mark,rd,wr⟩)<|Nat.blt nx top) s
end Go.Rn
namespace Go.Rn
noncomputable section
def xq:Value->Option AV
 | .bool b=>some<|.bool b
 | .int k n=>some<|.int k n
 | .string s=>some<|.str s
 | .pointer none=>some<|.ptr none
 | .slice none len cap=>match Nat.beq len 0&&Nat.beq cap 0 with
  |true=>some<|.slice none 0<|.known 0
  |false=>none
 | .map none=>some<|.map none
 | .nilFunc=>some .nilFunc
 | .nilIface=>some .nilIface
 |_=>none
def oV:List Value->Option (List AV)
 |[]=>some []
 |v::l=>match xq v with
  |none=>none
  |some x=>match oV l with
   |none=>none
   |some r=>some<|x::r
def ofValue:Value->Option AV
 | .agg cs=>match oV cs.toList with
  |none=>none
  |some l=>some<|.agg l
 | .tuple cs=>match oV cs.toList with
  |none=>none
  |some l=>some<|.tuple l
 |v=>xq v
def gj:Nat:=256
def ar(t:Tr AV)(x:Operand):Option AV:= @Operand.rec (fun _=>Option AV) (fun i=>t.get i) (fun v=>ofValue v) (fun g=> @Bool.rec (fun _=>Option AV) none (some<|.ptr<|some (g,0))<|Nat.blt g gj) (fun f=>some<|.func (.func f) [] []) x
def cd(P:Program)(t:TypeId):Option Nat:=
 match P.info? t with
 |none=>none
 |some i=>some i.size
def fC(P:Program)(t:TypeId):Option AV:=
 match P.info? t with
 |none=>none
 |some i=>match i.zero with
  |none=>none
  |some v=>ofValue v
def ly(P:Program)(t:TypeId):Option Bool:=
 match P.underlying t with
 |some (.struct _)=>some true
 |some (.array _ _)=>some true
 |some _=>some false
 |none=>none
def fy(t:Tr AV)(z:List AV):Nat->Nat->Option (List AV)
 |0,_=>some []
 |k+1,off=>match cellAt t z off with
  |none=>none
  |some v=>match fy t z k (off+1) with
   |none=>none
   |some l=>some<|v::l
def dH(n off:Nat):Nat->M (List AV)
 |0=>M.pure []
 |k+1=>(a9 n).bind fun o=>match o with
  | .cells m t z=>aB (Nat.ble (off+(k+1)) m) <| lift<|fy t z (k+1) off
  | .ro m t=>aB (Nat.ble (off+(k+1)) m) <| lift<|fy t [] (k+1) off
  |_=>fail
def kj(n off:Nat)(l:List AV):M Unit:=
  match l with
  |[]=>M.pure ()
  | x ::r=>(a9 n).bind fun o=>match o with
    | .cells m t z=>aB (and (Nat.ble (off+(r.length+1)) m)<|and (Nat.ble m top)<|(x::r).all AV.bu) <|
      ba n (some<|.cells m (Tr.fill (x::r) off t) z)
    |_=>fail
def newRow(l:List AV):M Nat:=aB (and (Nat.ble l.length top)<|l.all AV.bu) <| cZ<|.cells l.length (Tr.fill l 0 .nil) []
def one:List AV->Option AV
 |[v]=>some v
 |_=>none
def loadVar(P:Program)(t:TypeId)(n off:Nat):M AV:=
 aG (ly P t) fun ag=>match ag with
  |true=>aG (cd P t) fun k=>(dH n off k).bind fun l=>M.pure<|.agg l
  |false=>(dH n off 1).bind fun l=>lift<|one l
def storeVar(P:Program)(t:TypeId)(n off:Nat)(v:AV):M Unit:=aG (cd P t) fun k=>aB (Nat.beq v.cells.length k) <| kj n off v.cells
def addrOf:AV->Option (Nat×Nat)
 | .ptr (some a)=>some a
 |_=>none
def intOf:AV->Option Int
 | .int _ n=>some n
 |_=>none
def xr:AV->Option Bool
 | .bool b=>some b
 |_=>none
def js(P:Program)(t:TypeId)(cs:List AV)(off:Nat):Option AV:=
 match ly P t with
 |none=>none
 |some true=>match cd P t with
  |none=>none
  |some k=>some<|.agg<|(cs.drop off).take k
 |some false=>cs[off]?
def wZ:List AV->List AV->Nat->List AV
 |cs,[],_=>cs
 |cs,c::l,off=>wZ (cs.set off c) l<|off+1
def oZ(place:Nat->Option (Nat×Nat)):List AV->List (Nat×AV)->Option (List AV)
 |cells,[]=>some cells
 |cells,(i,v)::rest=>match place i with
  |none=>none
  |some (off,size)=>
   match Nat.beq v.cells.length size&&Nat.ble (off+v.cells.length) cells.length with
   |false=>none
   |true=>oZ place (wZ cells v.cells off) rest
def eJ(ev:Operand->Option AV):List Operand->Option (List AV)
 |[]=>some []
 |x::l=>match ev x with
  |none=>none
  |some v=>match eJ ev l with
   |none=>none
   |some r=>some<|v::r
def oc(ev:Operand->Option AV):List (Nat×Operand)->Option (List<|Nat×AV)
 |[]=>some []
 |(i,x)::l=>match ev x with
  |none=>none
  |some v=>match oc ev l with
   |none=>none
   |some r=>some<|(i,v)::r
def sg(P:Program):List Field->Option (List<|Nat×Nat)
 |[]=>some []
 |f::l=>match cd P f.type with
  |none=>none
  |some k=>match sg P l with
   |none=>none
   |some r=>some<|(f.offset,k)::r
def build(P:Program)(t:TypeId)(parts:List<|Nat×AV):Option AV:=
 match fC P t with
 |none=>none
 |some z=>match P.underlying t with
  |some (.struct fs)=>match sg P fs.toList with
   |none=>none
   |some pl=>match oZ (fun i=>pl[i]?) z.cells parts with
    |none=>none
    |some l=>some<|.agg l
  |some (.array _ e)=>match cd P e with
   |none=>none
   |some k=>match oZ (fun i=>some (i*k,k)) z.cells parts with
    |none=>none
    |some l=>some<|.agg l
  |_=>none
def uC:Nat->List AV->List AV
 |0,_=>[]
 |n+1,z=>z++uC n z
def buildSlice(P:Program)(t:TypeId)(len:Nat)(parts:List<|Nat×AV):M AV:=do
  match P.underlying t with
  | some (.slice e)=>do
    let k ←lift (cd P e)
    let z ←lift (fC P e)
    fL (Nat.ble (len*k) 1048576&&Nat.beq z.cells.length k)
    let l ←lift (oZ (fun i=>some (i*k,k)) (uC len z.cells) parts)
    let r ←newRow l
    pure (.slice (some (r,0)) len<|.known len)
  |_=>fail
def fieldAddr(P:Program)(s:TypeId)(x:AV)(field:Nat):Option AV:=
 match P.underlying s with
 |some (.struct fs)=>match fs[field]? with
  |none=>none
  |some f=>match cd P f.type with
   |none=>none
   |some k=>match Nat.beq k 0 with
    |true=>none
    |false=>match x with
     | .ptr (some (n,o))=>some<|.ptr<|some (n,o+f.offset)
     | .kz n o=>some<|.kz n<|o+f.offset
     |_=>none
 |_=>none
def IF(P:Program)(s:TypeId)(x:AV)(field:Nat):Option AV:=
 match P.underlying s,x with
 |some (.struct fs),.agg cs=>match fs[field]? with
  |none=>none
  |some f=>js P f.type cs f.offset
 |_,_=>none
def within(i:Int)(len:Nat):Option Nat:=
 match i with
 | .ofNat n=>match Nat.blt n len with
  |true=>some n
  |false=>none
 | .negSucc _=>none
def indexAddr(P:Program)(t:TypeId)(x ix:AV):Option AV:=
 match intOf ix with
 |none=>none
 |some i=>match P.underlying t,x with
  |some (.array len e),.ptr (some (n,o))=>match within i len,cd P e with
   |some j,some k=>some<|.ptr<|some (n,o+j*k)
   |_,_=>none
  |some (.slice e),.slice (some (n,o)) len _=>match within i len,cd P e with
   |some j,some k=>some<|.ptr<|some (n,o+j*k)
   |_,_=>none
  |some (.slice e),.ch n o len=>match within i len,cd P e with
   |some j,some k=>some<|.kz n<|o+j*k
   |_,_=>none
  |_,_=>none
def indexOf(P:Program)(t:TypeId)(x ix:AV):Option AV:=
 match intOf ix with
 |none=>none
 |some i=>match P.underlying t,x with
  |some (.array len e),.agg cs=>match within i len,cd P e with
   |some j,some k=>js P e cs<|j*k
   |_,_=>none
  |some .string,.str s=>match within i s.size with
   |some j=>match s.data.toList[j]? with
    |some b=>some<|.int .u8 b.toNat
    |none=>none
   |none=>none
  |_,_=>none
def bound(x:Option AV)(lz R9:Nat):Option Nat:=
 match x with
 |none=>some R9
 |some v=>match intOf v with
  |none=>none
  |some i=>within i<|lz+1
def opt(ev:Operand->Option AV):Option Operand->Option (Option AV)
 |none=>some none
 |some x=>match ev x with
  |none=>none
  |some v=>some<|some v
def fA(len:Nat)(c:aZ):Nat:=
 match c with
 | .known c=>c
 | .aU lo _=>lo
 | .lost=>len
def slice3(k:Nat)(a:Option<|Nat×Nat)(low:Nat)(lo hi:Option AV)(mx:AV):Option AV:=
 match bound (some mx) low 0 with
 |none=>none
 |some m=>match hi with
  |none=>none
  |some hi=>match bound (some hi) m 0 with
   |none=>none
   |some h=>match bound lo h 0 with
    |none=>none
    |some l=>match a with
     |none=>some<|.slice none (h - l)<|.known<|m - l
     |some (n,o)=>match Nat.beq m l with
      |true=>some<|.slice (some (n,o)) (h - l)<|.known<|m - l
      |false=>some<|.slice (some (n,o+l*k)) (h - l)<|.known<|m - l
def lW(P:Program)(t:TypeId)(x:AV)(lo hi mx:Option AV):Option AV:=
 match P.underlying t,x with
 |some .string,.str s=>match mx with
  |some _=>none
  |none=>match bound hi s.size s.size with
   |none=>none
   |some h=>match bound lo h 0 with
    |none=>none
    |some l=>some<|.str<|s.extract l h
 |some (.slice e),.slice a len cap=>
  match cd P e with
  |none=>none
  |some k=>
   match mx with
   |some mx=>match cap with
    | .lost=>none
    |cap=>slice3 k a (fA len cap) lo hi mx
   |none=>
    match bound hi (fA len cap) len with
    |none=>none
    |some h=>match bound lo h 0 with
     |none=>none
     |some l=>match a,cap with
      |none,.known c=>some<|.slice none (h - l)<|.known<|c - l
      |none,_=>none
      |some (n,o),.known c=>match Nat.beq c l with
       |true=>some<|.slice (some (n,o)) (h - l)<|.known<|c - l
       |false=>some<|.slice (some (n,o+l*k)) (h - l)<|.known<|c - l
      |some (n,o),.aU b e=>match Nat.beq l 0 with
       |true=>some<|.slice (some (n,o)) (h - l)<|.aU b e
       |false=>match Nat.beq e k&&Nat.blt l b with
        |true=>some<|.slice (some (n,o+l*k)) (h - l)<|.aU (b - l) e
        |false=>match Nat.beq (h - l) 0 with
         |true=>some<|.slice (some (n,o)) 0 .lost
         |false=>none
      |some (n,o),.lost=>match Nat.beq h 0 with
       |true=>some<|.slice (some (n,o)) 0 .lost
       |false=>none
 |some (.slice e),.ch n o len=>match cd P e with
  |none=>none
  |some k=>match mx with
   |some _=>none
   |none=>match bound hi len len with
    |none=>none
    |some h=>match bound lo h 0 with
     |none=>none
     |some l=>match Nat.ble top n with
      |true=>some<|.ch n (o+l*k)<|h - l
      |false=>none
 |some (.array len e),.ptr (some (n,o))=>
  match cd P e with
  |none=>none
  |some k=>match mx with
   |some _=>none
   |none=>match bound hi len len with
    |none=>none
    |some h=>match bound lo h 0 with
     |none=>none
     |some l=>match Nat.beq len l with
      |true=>some<|.slice (some (n,o)) (h - l)<|.known<|len - l
      |false=>some<|.slice (some (n,o+l*k)) (h - l)<|.known<|len - l
 |_,_=>none
def room:Nat:=140737488355328
def makeSlice(P:Program)(t:TypeId)(len cap:AV):M AV:=
 match P.underlying t with
 |some (.slice e)=>
  aG (intOf len) fun l=>aG (intOf cap) fun c=>aG (P.info? e) fun i=>aG (within c room) fun c=>aG (within l<|c+1) fun l=>aG (fC P e) fun z=>
  aB (and (Nat.ble (c*i.bytes) room)<|and (Nat.ble (c*i.size) top)<|and (or (Nat.beq (c*i.size) 0)<|not<|Nat.beq z.cells.length 0)<|z.cells.all AV.bu) <|
  (cZ<|.cells (c*i.size) .nil z.cells).bind fun r=>M.pure<|.slice (some (r,0)) l<|.known c
 |_=>fail
def zQ(s:ByteArray):List AV:=s.data.toList.map fun b=>.int .u8 b.toNat
def firstCells(size n:Nat):AV->M (List AV)
 | .slice (some _) 0 .lost=>aB (Nat.beq n 0) <| M.pure []
 | .slice (some (m,o)) _ _=>dH m o<|n*size
 | .slice none _ _=>M.pure []
 | .str s=>M.pure<|(zQ s).take n
 |_=>fail
def bytesOf:List AV->Option (List UInt8)
 |[]=>some []
 | .int .u8 n::l=>match bytesOf l with
  |none=>none
  |some r=>some<|n.toNat.toUInt8::r
 |_::_=>none
def lenOf:AV->Option Nat
 | .slice _ n _=>some n
 | .str s=>some s.size
 |_=>none
def grown(size bytes iW:Nat)(bJ new:List AV):M AV:=
 aB (and (Nat.ble (2*iW*bytes+4096*bytes) room)<|not<|Nat.beq bytes 0) <|
 (newRow<|bJ++new).bind fun r=>M.pure<|.slice (some (r,0)) iW<|.aU iW size
def oR(n off:Nat)(l:List AV):M Unit:=
  match l with
  |[]=>M.pure ()
  | x ::r=>(a9 n).bind fun o=>match o with
    | .cells m t z=>aB (and (Nat.ble off m)<|and (Nat.ble (max m<|off+(r.length+1)) top)<|(x::r).all AV.bu) <|
      ba n (some<|.cells (max m<|off+(r.length+1)) (Tr.fill (x::r) off t) z)
    |_=>fail
def U.nV:U->Bool
 | .cells _ _ _=>true
 |_=>false
def lT(i:TypeInfo):Bool:=
 match i.zero with
 |none=>false
 |some v=>Nat.beq v.cells.size i.size
def ji(size bytes:Nat)(base:Option<|Nat×Nat)(len:Nat)(cap:aZ)(n:Nat)(new:List AV):M AV:=
 match cap with
 | .known c=>match Nat.ble (len+n) c with
  |true=>(match base with
   |some (m,o)=>kj m (o+len*size) new
   |none=>M.pure ()).bind fun _=>M.pure (.slice base (len+n)<|.known c)
  |false=>(firstCells size len<|.slice base len<|.known c).bind fun bJ=>grown size bytes (len+n) bJ new
 | .aU lo sz=>aB (Nat.beq sz size) <| match Nat.ble (len+n) lo with
  |true=>match base with
   |some (m,o)=>(oR m (o+len*size) new).bind fun _=>M.pure<|.slice (some (m,o)) (len+n)<|.aU lo sz
   |none=>fail
  |false=>match base with
   |some (m,0)=>(dH m 0<|len*size).bind fun bJ=>(a9 m).bind fun o=>aB o.nV <| (ba m none).bind fun _=>grown size bytes (len+n) bJ new
   |_=>fail
 | .lost=>fail
def jO(P:Program)(t:Option TypeId):Bool:=
 match t with
 |none=>true
 |some t=>match P.underlying t with
  |some (.int _)=>false
  |some _=>true
  |none=>false
def gL(P:Program)(argTypes:Array TypeId)(s x:AV):M AV:=
 aG argTypes[0]? fun t=>match P.underlying t,s with
 |some (.slice e),.slice base len cap=>
  aG (P.info? e) fun i=>aB (and (lT i)<|jO P argTypes[1]?) <| aG (lenOf x) fun n=>(firstCells i.size n x).bind fun new=>
  aB (Nat.beq new.length<|n*i.size) <| ji i.size i.bytes base len cap n new
 |_,_=>fail
def Px:AV->Bool
 | .slice _ _ .lost=>false
 |_=>true
def qq(P:Program)(argTypes:Array TypeId)(d x:AV):M AV:=
 aG argTypes[0]? fun t=>match P.underlying t,d with
 |some (.slice e),.slice base len cap=>
  aG (cd P e) fun k=>aG (lenOf x) fun m=>aB (Px<|.slice base len cap) <| (firstCells k (Nat.min m len) x).bind fun cells=>
  (match base with
  |some (r,o)=>kj r o cells
  |none=>M.pure ()).bind fun _=>M.pure (.int .i64 (Nat.min m len:Nat))
 |_,_=>fail
def eqFields(P:Program)(eq:TypeId->AV->AV->Option Bool)(xs ys:List AV):List Field->Option Bool
 |[]=>some true
 |f::l=>match f.name == "_" with
  |true=>eqFields P eq xs ys l
  |false=>match js P f.type xs f.offset,js P f.type ys f.offset with
   |some a,some b=>match eq f.type a b with
    |none=>none
    |some false=>some false
    |some true=>eqFields P eq xs ys l
   |_,_=>none
def xg(P:Program)(eq:TypeId->AV->AV->Option Bool)(t:TypeId)(k:Nat)(xs ys:List AV):Nat->Nat->Option Bool
 |0,_=>some true
 |n+1,i=>match js P t xs (i*k),js P t ys (i*k) with
  |some a,some b=>match eq t a b with
   |none=>none
   |some false=>some false
   |some true=>xg P eq t k xs ys n<|i+1
  |_,_=>none
def Eu(n len:Nat):Option Bool:=match len with
 |0=>match Nat.beq n top with
  |true=>some true
  |false=>match Nat.beq n (top+1) with
   |true=>some false
   |false=>none
 |_+1=>some false
def gS(P:Program):Nat->TypeId->AV->AV->Option Bool
 |0,_,_,_=>none
 |d+1,t,x,y=>
  match P.underlying t,x,y with
  |some .bool,.bool a,.bool b=>some<|a == b
  |some (.int _),.int k a,.int k' b=>match decide (k=k') with
   |true=>some<|a == b
   |false=>none
  |some .string,.str a,.str b=>some<|a == b
  |some (.pointer _),.ptr none,.ptr b=>some b.isNone
  |some (.pointer _),.ptr (some _),.ptr none=>some false
  |some (.interface _),.nilIface,.nilIface=>some true
  |some (.interface _),.nilIface,.iface _ _=>some false
  |some (.interface _),.iface _ _,.nilIface=>some false
  |some (.struct fs),.agg xs,.agg ys=>match P.stoodInHeld t with
   |true=>none
   |false=>eqFields P (gS P d) xs ys fs.toList
  |some (.array n e),.agg xs,.agg ys=>match cd P e with
   |none=>none
   |some k=>xg P (gS P d) e k xs ys n 0
  |some (.slice _),.slice none _ _,.slice b _ _=>some b.isNone
  |some (.slice _),.slice (some _) _ _,.slice none _ _=>some false
  |some (.slice _),.ch n _ len,.slice none _ _=>Eu n len
  |some (.map _ _),.map none,.map b=>some b.isNone
  |some (.map _ _),.map (some _),.map none=>some false
  |some (.func _ _ _),.nilFunc,.nilFunc=>some true
  |some (.func _ _ _),.nilFunc,.func _ _ _=>some false
  |some (.func _ _ _),.func _ _ _,.nilFunc=>some false
  |_,_,_=>none
def isConst:Operand->Bool
 | .const _=>true
 |_=>false
def Cy(P:Program)(t:TypeId)(x y:Operand)(a b:AV):Bool:=
 match a,b with
 | .nilIface,.nilIface=>isConst x||isConst y
 | .agg _,.agg _=> !P.eqGuardType P.depth t
 |_,_=>true
def qA(op:BinOp)(k:IntKind)(a b:Int):Option AV:=
 match op with
 | .add=>some<|.int k<|k.wrap<|a+b
 | .sub=>some<|.int k<|k.wrap<|a - b
 | .mul=>some<|.int k<|k.wrap<|a*b
 | .quo=>match decide (b=0) with
  |true=>none
  |false=>some<|.int k<|k.wrap<|a.tdiv b
 | .rem=>match decide (b=0) with
  |true=>none
  |false=>some<|.int k<|a.tmod b
 | .and=>some<|.int k<|k.wrap (BitVec.ofInt k.bits a&&& BitVec.ofInt k.bits b).toNat
 | .or=>some<|.int k<|k.wrap (BitVec.ofInt k.bits a|||BitVec.ofInt k.bits b).toNat
 | .xor=>some<|.int k<|k.wrap (BitVec.ofInt k.bits a ^^^ BitVec.ofInt k.bits b).toNat
 | .andNot=>some<|.int k<|k.wrap (BitVec.ofInt k.bits a&&& ~~~BitVec.ofInt k.bits b).toNat
 | .eql=>some<|.bool<|a == b
 | .neq=>some<|.bool<|a != b
 | .lss=>some<|.bool<|a<b
 | .leq=>some<|.bool<|a<=b
 | .gtr=>some<|.bool<|a>b
 | .geq=>some<|.bool<|a>=b
 |_=>none
def Al(op:BinOp)(k:IntKind)(x y:Int):Option AV:=
 match decide (y<0) with
 |true=>none
 |false=>match op with
  | .shl=>some<|.int k<|k.wrap<|x*2 ^ min y.toNat k.bits
  | .shr=>some<|.int k<|x.fdiv<|2 ^ min y.toNat k.bits
  |_=>none
def D0(op:BinOp)(x y:ByteArray):Option AV:=
 match op with
 | .add=>match Nat.ble (x.size+y.size) room with
  |true=>some<|.str<|x++y
  |false=>none
 | .eql=>some<|.bool<|x.toList == y.toList
 | .neq=>some<|.bool<|!(x.toList == y.toList)
 | .lss=>some<|.bool<|Op.bytesLess x.toList y.toList
 | .leq=>some<|.bool<|Op.bytesLess x.toList y.toList||x.toList == y.toList
 | .gtr=>some<|.bool<|!(Op.bytesLess x.toList y.toList||x.toList == y.toList)
 | .geq=>some<|.bool<|!Op.bytesLess x.toList y.toList
 |_=>none
def lX:BinOp->Bool
 | .shl| .shr=>true
 |_=>false
def kq(P:Program)(op:BinOp)(t:TypeId)(x y:AV):Option AV:=
 match x,y with
 | .int k a,.int k' b=>match lX op with
  |true=>Al op k a b
  |false=>match decide (k=k') with
   |true=>qA op k a b
   |false=>none
 | .str a,.str b=>D0 op a b
 |x,y=>match op with
  | .eql=>match gS P Op.maxDepth t x y with
   |none=>none
   |some b=>some<|.bool b
  | .neq=>match gS P Op.maxDepth t x y with
   |none=>none
   |some b=>some<|.bool !b
  |_=>none
def JP(op:UnOp)(x:AV):Option AV:=
 match op,x with
 | .neg,.int k n=>qA .sub k 0 n
 | .xor,.int k n=>qA .xor k (match k.signed with|true=> -1|false=>k.max) n
 | .not,.bool b=>some<|.bool !b
 |_,_=>none
def CY(P:Program)(src dst:TypeId)(x:AV):Option AV:=
 match P.underlying src,P.underlying dst,x with
 |some _,some (.int k),.int _ n=>some<|.int k<|k.wrap n
 |some _,some .string,.str s=>some<|.str s
 |_,_,_=>none
def plainKey(P:Program)(t:TypeId)(key:AV):Bool:=
 match P.underlying t,key with
 |some (.int _),.int _ _=>true
 |some .string,.str _=>true
 |some .bool,.bool _=>true
 |_,_=>false
def dW(key:AV):List (AV×AV)->Nat->Option (Option<|Nat×AV)
 |[],_=>some none
 |(k,v)::l,i=>match sameKey key k with
  |none=>none
  |some true=>some<|some (i,v)
  |some false=>dW key l<|i+1
def w4(P:Program)(t:TypeId)(key:AV):List (AV×AV)->Nat->Option (Option<|Nat×AV)
 |[],_=>some none
 |(k,v)::l,i=>match gS P Op.maxDepth t key k with
  |none=>none
  |some true=>some<|some (i,v)
  |some false=>w4 P t key l<|i+1
def jY:AV->Bool
 | .ph _=>false
 |_=>true
def findKey(P:Program)(t:TypeId)(key:AV)(es:List<|AV×AV):Option<|Option<|Nat×AV:=
 match jY key with
 |false=>none
 |true=>match plainKey P t key with
  |true=>dW key es 0
  |false=>w4 P t key es 0
def wP(P:Program)(tG:TypeId->AV->Bool)(cs:List AV):List Field->Bool
 |[]=>true
 |f::l=>match f.name == "_" with
  |true=>wP P tG cs l
  |false=>match js P f.type cs f.offset with
   |none=>false
   |some a=>match tG f.type a with
    |true=>wP P tG cs l
    |false=>false
def fV(P:Program):Nat->TypeId->AV->Bool
 |0,_,_=>false
 |d+1,t,x=>match P.underlying t,x with
  |some .bool,_=>true
  |some (.int _),_=>true
  |some .string,_=>true
  |some (.struct fs),.agg cs=>wP P (fV P d) cs fs.toList
  |_,_=>false
def lg(r:Nat):M<|List<|AV×AV:=do
 match ←a9 r with
 | .map es _=>pure es
 | .cW es=>pure es
 |_=>fail
def short:List (AV×AV)->Bool
 |[]=>true
 |[_]=>true
 |_=>false
def nZ(P:Program)(k:TypeId)(key x:AV):M<|List<|AV×AV:=
 match x with
 | .map none=>M.pure []
 | .map (some r)=>(a9 r).bind fun o=>match o with
  | .map es _=>M.pure es
  | .cW es=>aB (or (plainKey P k key)<|short es) <| M.pure es
  |_=>fail
 |_=>fail
def ow(ok:Bool)(v:AV)(b:Bool):AV:=
 match ok with
 |true=>.tuple [v,.bool b]
 |false=>v
def kY(P:Program)(t:TypeId)(x key:AV)(ok:Bool):M AV:=
 match P.underlying t with
 |some (.map k e)=>(nZ P k key x).bind fun es=>aB (fV P 10000 k key) <| aG (findKey P k key es) fun f=>match f with
  |some q=>M.pure<|ow ok q.2 true
  |none=>aG (fC P e) fun z=>M.pure<|ow ok z false
 |_=>fail
def lY:List AV->List AV->Bool
 |[],[]=>true
 |x::xs,y::ys=>match sameKey x y with
  |some true=>lY xs ys
  |_=>false
 |_,_=>false
def sameBits:AV->AV->Bool
 | .agg xs,.agg ys=>lY xs ys
 |x,y=>match sameKey x y with
  |some true=>true
  |_=>false
def putAt:List (AV×AV)->Nat->AV->AV->List (AV×AV)
 |[],_,_,_=>[]
 |_::l,0,k,v=>(k,v)::l
 |x::l,i+1,k,v=>x::putAt l i k v
def qB(r:Nat)(key val:AV)(es:List<|AV×AV)(aM:Nat)(f:Option<|Nat×AV):M Unit:=
 match f with
 |some q=>aG es[q.1]? fun bJ=>aB (sameBits bJ.1 key) <| ba r<|some<|.map (putAt es q.1 key val) aM
 |none=>ba r<|some<|.map (es++[(key,val)])<|aM+1
def rN(r:Nat)(key val:AV)(es:List<|AV×AV)(f:Option<|Nat×AV):M Unit:=
 match f with
 |some q=>ba r<|some<|.cW<|putAt es q.1 key val
 |none=>ba r<|some<|.cW<|es++[(key,val)]
def jP(P:Program)(t:TypeId)(m key val:AV):M Unit:=
 match P.underlying t,m with
 |some (.map k _),.map (some r)=>(a9 r).bind fun o=>match o with
  | .map es aM=>aB (fV P 10000 k key) <| aG (findKey P k key es) fun f=>qB r key val es aM f
  | .cW es=>aB (and (plainKey P k key)<|fV P 10000 k key) <| aG (findKey P k key es) fun f=>rN r key val es f
  |_=>fail
 |_,_=>fail
def qL(P:Program)(argTypes:Array TypeId)(x:AV):M AV:=do
  let t ←lift argTypes[0]?
  match P.underlying t,x with
  |some .string,.str s=>pure<|.int .i64 s.size
  |some .string,.ph n=>pure<|.int .i64 n
  |some (.array n _),_=>pure<|.int .i64 n
  | some (.pointer a),_=>match P.underlying a with
    |some (.array n _)=>pure<|.int .i64 n
    |_=>fail
  |some (.slice _),.slice _ n _=>pure<|.int .i64 n
  |some (.slice _),.ch _ _ n=>pure<|.int .i64 n
  |some (.map _ _),.map none=>pure<|.int .i64 0
  | some (.map _ _),.map (some r)=>do
    let es ←lg r
    pure (.int .i64 es.length)
  |_,_=>fail
def min2:AV->AV->Option AV
 | .int k x,.int _ y=>some<|.int k (match decide (y<x) with|true=>y|false=>x)
 |_,_=>none
def max2:AV->AV->Option AV
 | .int k x,.int _ y=>some<|.int k (match decide (y>x) with|true=>y|false=>x)
 |_,_=>none
def uX(f:AV->AV->Option AV):List AV->AV->Option AV
 |[],x=>some x
 |y::l,x=>match f x y with
  |none=>none
  |some z=>uX f l z
def qu(P:Program)(argTypes:Array TypeId)(x:AV):M AV:=do
  let t ←lift argTypes[0]?
  match P.underlying t,x with
  |some (.slice _),.slice none _ _=>pure jN
  | some (.slice e),.slice (some (n,o)) len cap=>do
    fL (match cap with| .lost=>false|_=>true)
    let z ←lift (fC P e)
    kj n o (uC len z.cells)
    pure jN
  |_,_=>fail
def qd(P:Program)(b:Builtin)(argTypes:Array TypeId)(args:List AV):M AV:=
 match b,args with
 | .len,[x]=>qL P argTypes x
 | .append,[s,x]=>gL P argTypes s x
 | .copy,[d,x]=>qq P argTypes d x
 | .clear,[x]=>qu P argTypes x
 | .min,x::l=>lift<|uX min2 l x
 | .max,x::l=>lift<|uX max2 l x
 |_,_=>fail
inductive yC where
 |fn (f:FuncId)
 |round (l:Nat)
 |row (n o k:Nat)
def jt(U7:yC->List AV->M AV)(f:AV)(args:List AV):M AV:=
 match f with
 | .func (.func g) first captured=>U7 (.fn g)<|first++args++captured
 | .yield l=>U7 (.round l) args
 |_=>fail
def Df(P:Program)(t:TypeId)(name:String):Option FuncId:=
 match P.info? t with
 |none=>none
 |some i=>match i.methods.toList.find? (·.name == name) with
  |none=>none
  |some m=>match m.path.isEmpty,m.func with
   |true,some (f,ptr)=>match P.underlying t,ptr with
    |some (.pointer _),true=>some f
    |some (.pointer _),false=>none
    |some _,false=>some f
    |_,_=>none
   |_,_=>none
abbrev aJ:=yC->List AV->M AV
abbrev dv:=aJ->Tr AV->M AV
inductive lE (α:Type) where
 |mk (a:α)
def od(x:Operand):dv:=fun _ t=>lift<|ar t x
def sU(c a b:Operand):dv:=fun _ t=>
 aG (ar t c) fun c=>aG (xr c) fun c=>aG (ar t a) fun a=>aG (ar t b) fun b=>
  match c with
  |true=>M.pure a
  |false=>M.pure b
def Az(P:Program)(e:TypeId):dv:=fun _ _=>aG (fC P e) fun z=>(newRow z.cells).bind fun r=>M.pure<|.ptr<|some (r,0)
def tg(x:Operand):dv:=fun _ t=>aG (ar t x) fun v=>(newRow v.cells).bind fun r=>M.pure<|.ptr<|some (r,0)
def sE(P:Program)(ty:TypeId)(parts:List<|Nat×Operand):dv:=fun _ t=>aG (oc (ar t) parts) fun ps=>lift<|build P ty ps
def rE(P:Program)(ty:TypeId)(len:Nat)(parts:List<|Nat×Operand):dv:=fun _ t=>aG (oc (ar t) parts) fun ps=>buildSlice P ty len ps
def oW(P:Program)(ty:TypeId)(n o:Nat):M AV:=
 aG (ly P ty) fun ag=>match ag with
  |true=>fail
  |false=>(a9 n).bind fun ob=>match ob with
   | .nf m t=>aB (Nat.blt o m) <| lift<|t.get o
   |_=>fail
def n6(P:Program)(ty:TypeId)(U7:aJ)(n o:Nat):M AV:=
 aG (ly P ty) fun ag=>aG (cd P ty) fun k=>(U7 (.row n o (match ag with|true=>k|false=>1)) []).bind fun v=>match v with
  | .agg l=>match ag with
   |true=>M.pure<|.agg l
   |false=>lift<|one l
  |_=>fail
def loadAt(P:Program)(ty:TypeId)(U7:aJ)(a:AV):M AV:=
 match a with
 | .kz n o=>match Nat.ble top n with
  |true=>n6 P ty U7 n o
  |false=>oW P ty n o
 |a=>aG (addrOf a) fun a=>loadVar P ty a.1 a.2
def ng(P:Program)(ty:TypeId)(a:Operand):dv:=fun U7 t=>aG (ar t a) fun a=>loadAt P ty U7 a
def o4(P:Program)(ty:TypeId)(a x:Operand):dv:=fun _ t=>aG (ar t a) fun a=>aG (addrOf a) fun a=>aG (ar t x) fun v=>(storeVar P ty a.1 a.2 v).bind fun _=>M.pure jN
def notNil:AV->Bool
 | .ptr none| .nilIface| .nilFunc=>false
 | .func (.func _) _ _=>true
 | .func _ _ _=>false
 |_=>true
def rI(x:Operand):dv:=fun _ t=>aG (ar t x) fun v=>aB (notNil v) <| M.pure v
def si(P:Program)(op:BinOp)(t:TypeId)(x y:Operand)(a b:AV):Bool:=
 match op with
 | .eql| .neq=>Cy P t x y a b
 |_=>true
def gB(P:Program)(op:BinOp)(ty:TypeId)(x y:Operand):dv:=fun _ t=>aG (ar t x) fun a=>aG (ar t y) fun b=>aB (si P op ty x y a b) <| lift<|kq P op ty a b
def tH(op:UnOp)(x:Operand):dv:=fun _ t=>aG (ar t x) fun a=>lift<|JP op a
def isByte(P:Program)(e:TypeId):Bool:=
 match P.underlying e with
 |some (.int .u8)=>true
 |_=>false
def toText(P:Program)(src dst:TypeId)(a:AV)(n:Nat):M AV:=
 match P.underlying src,P.underlying dst with
 |some (.slice e),some .string=>aB (isByte P e) <| (firstCells 1 n a).bind fun l=>aG (bytesOf l) fun b=>M.pure<|.str ⟨b.toArray⟩
 |_,_=>fail
def Am(o:U)(n:Nat):Bool:=
 match o with
 | .cells m t z=>match t with
  | .nil=>match z with
   |[.int .u8 k]=>Nat.ble n m&&decide (k=0)
   |_=>false
  |_=>false
 |_=>false
def zeroOf(a:AV)(n:Nat):M AV:=
 match a with
 | .slice (some (r,o)) _ (.known _)=>aB (Nat.beq o 0) <| (a9 r).bind fun o=>aB (Am o n) <| M.pure<|.ph n
 |_=>fail
def toZero(P:Program)(src dst:TypeId)(a:AV)(n:Nat):M AV:=
 match P.underlying src,P.underlying dst with
 |some (.slice e),some .string=>aB (isByte P e) <| zeroOf a n
 |_,_=>fail
def rO(P:Program)(src dst:TypeId)(x:Operand):dv:=fun _ t=>
 aG (ar t x) fun a=>match a with
  | .slice p n c=>match Nat.blt 1048576 n with
   |true=>toZero P src dst (.slice p n c) n
   |false=>toText P src dst (.slice p n c) n
  |a=>lift<|CY P src dst a
def IG(P:Program)(t:TypeId)(a:AV):Option AV:=
 match P.underlying t with
 |none=>none
 |some (.interface _)=>none
 |some _=>some<|.iface t a
def rA(P:Program)(ty:TypeId)(x:Operand):dv:=fun _ t=>aG (ar t x) fun a=>lift<|IG P ty a
def Km:Fn->Bool
 | .func _=>true
 |_=>false
def rJ(fn:Fn)(first captured:List Operand):dv:=fun _ t=>aB (Km fn) <| aG (eJ (ar t) first) fun f=>aG (eJ (ar t) captured) fun c=>M.pure<|.func fn f c
def AM(P:Program)(t:TypeId):Bool:=
 match P.underlying t with
 |some (.map _ _)=>true
 |_=>false
def rP(P:Program)(ty:TypeId)(r:Option Operand):dv:=fun _ t=>
 (match r with
 |none=>M.pure ()
 |some x=>aG (ar t x) fun v=>aG (intOf v) fun _=>fL<|AM P ty).bind fun _=>
 (cZ<|.map [] 0).bind fun n=>M.pure<|.map<|some n
def oQ(P:Program)(ty:TypeId)(l c:Operand):dv:=fun _ t=>aG (ar t l) fun l=>aG (ar t c) fun c=>makeSlice P ty l c
def lh(P:Program)(ty:TypeId)(x:Operand)(lo hi mx:Option Operand):dv:=fun _ t=>aG (ar t x) fun x=>aG (opt (ar t) lo) fun lo=>aG (opt (ar t) hi) fun hi=>aG (opt (ar t) mx) fun mx=>lift<|lW P ty x lo hi mx
def rH(P:Program)(s:TypeId)(x:Operand)(f:Nat):dv:=fun _ t=>aG (ar t x) fun x=>lift<|fieldAddr P s x f
def sH(P:Program)(s:TypeId)(x:Operand)(f:Nat):dv:=fun _ t=>aG (ar t x) fun x=>lift<|IF P s x f
def kV(P:Program)(ty:TypeId)(x i:Operand):dv:=fun _ t=>aG (ar t x) fun x=>aG (ar t i) fun i=>lift<|indexAddr P ty x i
def sI(P:Program)(ty:TypeId)(x i:Operand):dv:=fun _ t=>aG (ar t x) fun x=>aG (ar t i) fun i=>lift<|indexOf P ty x i
def kZ(P:Program)(ty:TypeId)(x i:Operand)(ok:Bool):dv:=fun _ t=>aG (ar t x) fun x=>aG (ar t i) fun i=>kY P ty x i ok
def iR(P:Program)(ty:TypeId)(m k x:Operand):dv:=fun _ t=>aG (ar t m) fun m=>aG (ar t k) fun k=>aG (ar t x) fun x=>(jP P ty m k x).bind fun _=>M.pure jN
def Dg(P:Program)(asserted:TypeId)(ok:Bool)(v:AV):Option AV:=
 match v with
 | .iface t y=>match Nat.beq t asserted with
  |true=>match ok with
   |true=>some<|.tuple [y,.bool true]
   |false=>some y
  |false=>match ok with
   |true=>match fC P asserted with
    |none=>none
    |some z=>some<|.tuple [z,.bool false]
   |false=>none
 | .nilIface=>match ok with
  |true=>match fC P asserted with
   |none=>none
   |some z=>some<|.tuple [z,.bool false]
  |false=>none
 |_=>none
def IH(P:Program)(asserted:TypeId)(ok:Bool)(v:AV):Option AV:=
 match P.underlying asserted with
 |none=>none
 |some (.interface _)=>none
 |some _=>Dg P asserted ok v
def sj(P:Program)(asserted:TypeId)(ok:Bool)(x:Operand):dv:=fun _ t=>aG (ar t x) fun v=>lift<|IH P asserted ok v
def sk(P:Program)(ty:TypeId)(x:AV):M AV:=
 match P.underlying ty,x with
 |some .string,.str b=>(cZ<|.se b 0).bind fun n=>M.pure<|.ptr<|some (n,0)
 |some (.map _ _),.map (some m)=>(a9 m).bind fun o=>match o with
  | .map es _=>(ba m<|some .fp).bind fun _=>(cZ<|.iter m es true es none).bind fun n=>M.pure<|.ptr<|some (n,0)
  | .cW es=>(ba m<|some .fp).bind fun _=>(cZ<|.iter m es false es none).bind fun n=>M.pure<|.ptr<|some (n,0)
  |_=>fail
 |_,_=>fail
def sJ(P:Program)(ty:TypeId)(x:Operand):dv:=fun _ t=>aG (ar t x) fun x=>sk P ty x
def uL(x:AV):M AV:=
 match x with
 | .ptr (some (n,0))=>(a9 n).bind fun o=>match o with
  | .se b pos=>match Nat.blt pos b.size with
   |true=>(ba n<|some<|.se b<|pos+(Utf8.decode b pos).2).bind fun _=>M.pure<|.tuple [.bool true,.int .i64 pos,.int .i32 (Utf8.decode b pos).1]
   |false=>M.pure<|.tuple [.bool false]
  |_=>fail
 |_=>fail
def rQ(x:Operand):dv:=fun _ t=>aG (ar t x) fun x=>uL x
def uM(x:AV):M AV:=
 match x with
 | .ptr (some (n,0))=>(a9 n).bind fun o=>match o with
  | .iter _ _ _ _ (some (k,v))=>M.pure<|.tuple [k,v]
  |_=>fail
 |_=>fail
def sK(x:Operand):dv:=fun _ t=>aG (ar t x) fun x=>uM x
def partOf(x:AV)(i:Nat):Option AV:=
 match x with
 | .tuple l=>l[i]?
 |_=>none
def rR(x:Operand)(i:Nat):dv:=fun _ t=>aG (ar t x) fun x=>lift<|partOf x i
def mN(U7:aJ)(n o k:Nat):M<|List AV:=match k with
 |0=>M.pure []
 |k=>(U7 (.row n o k) []).bind fun x=>match x with
  | .agg l=>aB (Nat.beq l.length k) <| M.pure l
  |_=>fail
def D1(size len:Nat)(cap:aZ):Bool:=
 match cap with
 | .known c=>and (Nat.beq c 0)<|Nat.beq len 0
 | .aU _ sz=>Nat.beq sz size
 | .lost=>false
def sq(P:Program)(U7:aJ)(argTypes:Array TypeId)(s:AV)(n o k:Nat):M AV:=
 aB (Nat.ble top n) <| aG argTypes[0]? fun t=>match P.underlying t,s with
 |some (.slice e),.slice (some (m,0)) len cap=>
  aG (P.info? e) fun i=>aB (and (lT i)<|jO P argTypes[1]?) <| aB (D1 i.size len cap) <|
  (mN U7 n o<|k*i.size).bind fun new=>(dH m 0<|len*i.size).bind fun bJ=>(a9 m).bind fun ob=>aB ob.nV <| (ba m none).bind fun _=>grown i.size i.bytes (len+k) bJ new
 |_,_=>fail
def iP(P:Program)(b:Builtin)(argTypes:Array TypeId)(args:List Operand):dv:=fun U7 t=>
 aG (eJ (ar t) args) fun args=>match b,args with
 | .append,[s,.ch n o k]=>sq P U7 argTypes s n o k
 |b,args=>qd P b argTypes args
def nh(f:Operand)(args:List Operand):dv:=fun U7 t=>aG (eJ (ar t) args) fun args=>aG (ar t f) fun f=>jt U7 f args
def sr(P:Program)(recv:Operand)(name:String)(args:List Operand):dv:=fun U7 t=>
 aG (eJ (ar t) args) fun args=>aG (ar t recv) fun r=>match r with
  | .iface ty v=>aG (Df P ty name) fun f=>U7 (.fn f)<|v::args
  |_=>fail
def JQ:dv:=fun _ _=>fail
def bC(P:Program)(op:Op):lE dv:=
 match op with
 | .move x=>.mk<|od x
 | .assign x=>.mk<|od x
 | .pick c a b=>.mk<|sU c a b
 | .alloc e=>.mk<|Az P e
 | .box _ x=>.mk<|tg x
 | .build t parts=>.mk<|sE P t parts.toList
 | .buildSlice t len parts=>.mk<|rE P t len parts.toList
 | .load t a=>.mk<|ng P t a
 | .store t a x=>.mk<|o4 P t a x
 | .nilCheck x=>.mk<|rI x
 | .binOp op t x y _=>.mk<|gB P op t x y
 | .unOp op _ x=>.mk<|tH op x
 | .convert src dst x=>.mk<|rO P src dst x
 | .makeInterface t x=>.mk<|rA P t x
 | .makeFunc fn first captured=>.mk<|rJ fn first.toList captured.toList
 | .makeMap t r=>.mk<|rP P t r
 | .makeSlice t l c=>.mk<|oQ P t l c
 | .slice t x lo hi mx=>.mk<|lh P t x lo hi mx
 | .fieldAddr s x f=>.mk<|rH P s x f
 | .field s x f=>.mk<|sH P s x f
 | .indexAddr t x i=>.mk<|kV P t x i
 | .index t x i=>.mk<|sI P t x i
 | .lookup t x i ok=>.mk<|kZ P t x i ok
 | .mapUpdate t m k x=>.mk<|iR P t m k x
 | .insert t m k x=>.mk<|iR P t m k x
 | .typeAssert x _ asserted ok=>.mk<|sj P asserted ok x
 | .range t x=>.mk<|sJ P t x
 | .entry x=>.mk<|sK x
 | .next x true=>.mk<|rQ x
 | .extract x i=>.mk<|rR x i
 | .call ⟨.builtin b,args,argTypes⟩=>.mk<|iP P b argTypes args.toList
 | .call ⟨.value f,args,_⟩=>.mk<|nh f args.toList
 | .call ⟨.invoke recv name,args,_⟩=>.mk<|sr P recv name args.toList
 |_=>.mk JQ
def lE.val{α:Type}(b:lE α):α:= @lE.rec α (fun _=>α) (fun a=>a) b
def yD(P:Program)(U7:aJ)(t:Tr AV)(op:Op):M AV:=(bC P op).val U7 t
end
end Go.Rn
namespace Go.Rn
noncomputable section
structure AF where
 fn:FuncId
 tmps:Tr AV
 nt:Nat
 todo:List Item
 defers:List Nat
 round:Option Nat
def eU(nt:Nat)(t:Tr AV)(dst:Option Tmp)(v:AV):Option<|Tr AV:= @Option.rec Tmp (fun _=>Option<|Tr AV) (some t) (fun d=> @Bool.rec (fun _=>Option<|Tr AV) none (some<|t.put d<|some v)<|Nat.blt d nt) dst
def w6(ops:Array Oper)(t:Tr AV)(j:Nat):Option Bool:=
 match ops[j]? with
 |none=>none
 |some o=>match o.dst with
  |none=>none
  |some d=>match t.get d with
   |some (.bool b)=>some b
   |_=>none
def la(ops:Array Oper)(g:Nat×Bool)(t:Tr AV):Bool:=
 match w6 ops t g.1 with
 |some b=>b == g.2
 |none=>false
def mX(ops:Array Oper)(t:Tr AV)(j:Nat):Bool:=
 match ops[j]? with
 |none=>true
 |some o=>match o.dst with
  |none=>true
  |some d=>(t.get d).isSome
abbrev D2:=aJ->Nat->Tr AV->M (Tr AV)
def mz(f:lE dv)(dst:Option Tmp):D2:=fun U7 nt t=>(f.val U7 t).bind fun v=>lift<|eU nt t dst v
def ni(ops:Array Oper)(g:Nat×Bool)(f:lE dv)(dst:Option Tmp):D2:=fun U7 nt t=>aB (mX ops t g.1) <| @Bool.rec (fun _=>M<|Tr AV) (lift<|eU nt t dst jN) ((f.val U7 t).bind fun v=>lift<|eU nt t dst v)<|la ops g t
def sW(P:Program)(ops:Array Oper)(o:Oper):lE D2:=
 match o.guard with
 |none=>.mk<|mz (bC P o.op) o.dst
 |some g=>.mk<|ni ops g (bC P o.op) o.dst
def dz(P:Program)(U7:aJ)(nt:Nat)(ops:Array Oper)(o:Oper)(t:Tr AV):M<|Tr AV:=(sW P ops o).val U7 nt t
def fY(P:Program)(U7:aJ)(nt:Nat)(ops:Array Oper)(l:List Oper):Tr AV->M (Tr AV):= @List.rec Oper (fun _=>Tr AV->M (Tr AV)) (fun t=>M.pure t) (fun o _ ih t=>(dz P U7 nt ops o t).bind ih) l
structure bM where
 i:Nat
 rd:List Nat
 wr:List Nat
 lo:Nat
 hi:Nat
def nW(m:Nat)(l:List Nat):List Nat:= @List.rec Nat (fun _=>List Nat) [] (fun x _ ih=> @Bool.rec (fun _=>List Nat) ih (List.cons x ih) (Nat.ble m x |> not)) l
def below(m:Nat)(l:List Nat):List Nat:= @Bool.rec (fun _=>List Nat) (nW m l) []<|Nat.beq m 0
def alone{α:Type}(i:Nat)(m:M α):M<|α×bM:=fun s=>
 @AS.rec (fun _=>R<|α×bM) (fun h nx mark rd wr=>forced nx fun lo=>
  @R.rec α (fun _=>R<|α×bM) .bad (fun a s1=>
   @AS.rec (fun _=>R<|α×bM) (fun h1 eB _ dq jF=>forced eB fun hi=>.ok (a,⟨i,below lo dq,below lo jF,lo,hi⟩) ⟨h1,hi,mark,below mark dq++rd,below mark jF++wr⟩) s1)
   (m ⟨h,lo,lo,[],[]⟩)) s
def iY(P:Program)(U7:aJ)(nt:Nat)(ops:Array Oper):List Oper->Nat->Tr AV->M (Tr AV×List bM)
 |[],_,t=>M.pure (t,[])
 |o::l,i,t=>(alone i<|dz P U7 nt ops o t).bind fun x=>(iY P U7 nt ops l (i+1) x.1).bind fun y=>M.pure (y.1,x.2::y.2)
def oi(n:Nat):List Nat->Bool
 |[]=>false
 |x::l=>match Nat.beq x n with
  |true=>true
  |false=>oi n l
def meets:List Nat->List Nat->Bool
 |[],_=>false
 |x::l,m=>match oi x m with
  |true=>true
  |false=>meets l m
def qC(lo hi:Nat):List Nat->Bool
 |[]=>false
 |x::l=>match Nat.ble lo x&&Nat.blt x hi with
  |true=>true
  |false=>qC lo hi l
def mY(x y:bM):Bool:= !(meets x.wr y.rd)&&(!(qC x.lo x.hi y.rd))
def mZ(x:bM):Bool:=match x.wr with
 |[]=>Nat.ble x.hi x.lo
 |_=>false
def mL(b:Array Nat)(x:bM):List bM->Bool
 |[]=>true
 |y::l=>match Nat.beq x.i y.i||(mY x y|| !loose b x.i y.i) with
  |true=>mL b x l
  |false=>false
def lp(b:Array Nat)(all:List bM):List bM->Bool
 |[]=>true
 |x::l=>match mZ x||mL b x all with
  |true=>lp b all l
  |false=>false
def oS(P:Program)(U7:aJ)(nt:Nat)(ops:Array Oper)(t:Tr AV):M<|Tr AV:=(iY P U7 nt ops ops.toList 0 t).bind fun x=>aB (lp (Region.before ops) x.2 x.2) <| M.pure x.1
inductive bN where
 |go (fr:AF)
 |leave (fr:AF) (Vi:Option Code)
def getLoop(l:Nat):M U:=(a9 l).bind fun o=>match o with
 | .loop a b c d e f g h i=>M.pure<|.loop a b c d e f g h i
 |_=>fail
abbrev lq:=aJ->FuncId->Tr AV->Nat->List Nat->Option Nat->List Item->M bN
def xV:lq:=fun _ fn t nt d r k=>M.pure<|.go ⟨fn,t,nt,k,d,r⟩
def vj(l:List Item):lq:=fun _ fn t nt d r k=>M.pure<|.go ⟨fn,t,nt,l++k,d,r⟩
def JR(c:Operand)(a b:Code):lq:=fun _ fn t nt d r k=>aG (ar t c) fun v=>aG (xr v) fun v=>M.pure<|.go ⟨fn,t,nt,.code (@Bool.rec (fun _=>Code) b a v)::k,d,r⟩
def AN(id:Nat):lq:=fun _ fn t nt d r k=>match exitTo id k with
 |some k'=>M.pure<|.go ⟨fn,t,nt,k',d,r⟩
 |none=>M.pure<|.leave ⟨fn,t,nt,.code (.exit id)::k,d,r⟩<|some<|.exit id
def AO(l:Nat):lq:=fun _ fn t nt d r k=>match gotoIn l k with
 |some k'=>M.pure<|.go ⟨fn,t,nt,k',d,r⟩
 |none=>M.pure<|.leave ⟨fn,t,nt,.code (.goto l)::k,d,r⟩<|some<|.goto l
def Kn:lq:=fun _ fn t nt d r k=>M.pure<|.leave ⟨fn,t,nt,.code .ret::k,d,r⟩<|some .ret
def II(P:Program)(ops:Array Oper):lq:=fun U7 fn t nt d r k=>(fY P U7 nt ops ops.toList t).bind fun t=>M.pure<|.go ⟨fn,t,nt,k,d,r⟩
def H3(P:Program)(ops:Array Oper):lq:=fun U7 fn t nt d r k=>(oS P U7 nt ops t).bind fun t=>M.pure<|.go ⟨fn,t,nt,k,d,r⟩
def Py:LoopState->Bool
 | .busy=>false
 |_=>true
def lU(l:Nat):M<|Option Code:=(getLoop l).bind fun o=>match o with
 | .loop st dP fn t nt ps a b dd=>aB (Py st) <| (ba l<|some<|.loop .exhausted dP fn t nt ps a b dd).bind fun _=>M.pure dP
 |_=>fail
def andThen(p:Option Code)(k:List Item):List Item:=
 match p with
 |none=>k
 |some c=>.code c::k
def AA(f:Operand)(params:List Tmp)(assign body:Code):lq:=fun U7 fn t nt d r k=>
 match r with
 |none=>
  (cZ .defs).bind fun df=>(cZ<|.loop .ready none fn t nt params assign body df).bind fun l=>
  aG (ar t f) fun g=>(jt U7 g [.yield l]).bind fun _=>(lU l).bind fun p=>
  M.pure (.go ⟨fn,t,nt,andThen p k,df::d,r⟩)
 |some l0=>(getLoop l0).bind fun o=>match o with
  | .loop _ _ _ _ _ _ _ _ df=>
   (cZ<|.loop .ready none fn t nt params assign body df).bind fun l=>
   aG (ar t f) fun g=>(jt U7 g [.yield l]).bind fun _=>(lU l).bind fun p=>
   M.pure (.go ⟨fn,t,nt,andThen p k,d,r⟩)
  |_=>fail
def AB:lq:=fun _ fn t nt d r k=>
 match r with
 |none=>fail
 |some l=>(getLoop l).bind fun o=>match o with
  | .loop .ready dP Tb t1 Tc ps a b df=>(ba l<|some<|.loop .busy dP Tb t1 Tc ps a b df).bind fun _=>M.pure<|.go ⟨fn,t,nt,k,d,r⟩
  |_=>fail
def D3:lq:=fun _ _ _ _ _ _ _=>fail
def JS(P:Program)(c:Code):lE lq:=
 match c with
 | .skip=>.mk xV
 | .label _=>.mk xV
 | .seq a b=>.mk<|vj [.code a,.code b]
 | .cond c a b=>.mk<|JR c a b
 | .block id b=>.mk<|vj [.code b,.inBlock id]
 | .loop b=>.mk<|vj [.code b,.inLoop b]
 | .scope b=>.mk<|vj [.code b,.inScope b]
 | .exit id=>.mk<|AN id
 | .goto l=>.mk<|AO l
 | .ret=>.mk Kn
 | .region _ ops false=>.mk<|II P ops
 | .region _ ops true=>.mk<|H3 P ops
 | .rangeFunc f params a b=>.mk<|AA f params.toList a b
 | .refuse _=>.mk D3
def AP(P:Program)(it:Item):lE lq:=
 match it with
 | .code c=>JS P c
 | .inBlock _=>.mk xV
 | .inScope _=>.mk xV
 | .inLoop b=>.mk<|vj [.code b,.inLoop b]
 | .beginRound=>.mk AB
 |_=>.mk D3
def gk(P:Program)(U7:aJ)(fr:AF):M bN:= @AF.rec (fun _=>M bN) (fun fn t nt todo d r=> @List.rec Item (fun _=>M bN) (M.pure<|.leave ⟨fn,t,nt,[],d,r⟩ none) (fun it k _=>(AP P it).val U7 fn t nt d r k) todo) fr
def ju(P:Program)(U7:aJ)(n:Nat):AF->M bN:= @Nat.rec (fun _=>AF->M bN) (gk P U7) (fun _ ih fr=>(ih fr).bind fun x=> @bN.rec (fun _=>M bN) ih (fun fr j=>M.pure<|.leave fr j) x) n
def jR(P:Program)(U7:aJ)(n:Nat):Nat->AF->M bN:= @Nat.rec (fun _=>Nat->AF->M bN) (fun _ _=>fail) (fun _ ih k fr=>(ju P U7 k fr).bind fun x=> @bN.rec (fun _=>M bN) (fun fr=>ih (Nat.succ k) fr) (fun fr j=>M.pure<|.leave fr j) x) n
def rT(P:Program)(t:Tr AV):ResultVar->M AV
  | .tmp i=>lift<|t.get i
  | .cell a ty=>do
    let a ←lift (match t.get a with
      |some x=>addrOf x
      |none=>none)
    loadVar P ty a.1 a.2
def kW(P:Program)(t:Tr AV):List ResultVar->M (List AV)
  |[]=>pure []
  | r::l=>do
    let v ←rT P t r
    let vs ←kW P t l
    pure (v::vs)
def jj:List Nat->M Unit
  |[]=>pure ()
  | d ::l=>do
    match ←a9 d with
    | .defs=>do
      ba d none
      jj l
    |_=>fail
def bG(l:List AV):Tr AV:=Tr.fill l 0 .nil
def kl:List Tmp->List AV->Tr AV->Tr AV
 |p::ps,v::vs,t=>kl ps vs<|t.put p<|some v
 |_,_,t=>t
def rU(fr:AF):Option<|Operand×Oper×Array Oper×List Oper×List Item:=
 match fr.todo with
 | .code (.region _ ops false)::k=>match ops.toList with
  |o::rest=>match o.guard,o.op with
   |none,.next it false=>some (it,o,ops,rest,k)
   |_,_=>none
  |[]=>none
 |_=>none
def pa{α:Type}:List α->List (α×List α)
 |[]=>[]
 |x::l=>(x,l)::(pa l).map fun(y,r)=>(y,x::r)
def mapOf(exact:Bool)(es:List<|AV×AV):U:=
 match exact with
 |true=>.map es es.length
 |false=>.cW es
def m9(P:Program)(U7:aJ)(fr:AF)(n:Nat)(ob:U)(o:Oper)(ops:Array Oper)(rest:List Oper)(k:List Item)(v:AV):M AF:=do
 ba n (some ob)
 let t ←lift (eU fr.nt fr.tmps o.dst v);let t ←fY P U7 fr.nt ops rest t
 pure {fr with tmps:=t,todo:=k}
def mP(P:Program)(U7:aJ)(fr:AF)(n m:Nat)(es:List<|AV×AV)(exact:Bool)(o:Oper)(ops:Array Oper)(rest:List Oper)(k:List Item):M AF:=do
 ba n none
 ba m (some<|mapOf exact es)
 let t ←lift (eU fr.nt fr.tmps o.dst<|.tuple [.bool false]);let t ←fY P U7 fr.nt ops rest t
 pure {fr with tmps:=t,todo:=k}
def nX(fr:AF)(it:Operand):M<|Nat×U:=do
  match ←lift (ar fr.tmps it) with
  | .ptr (some (n,0))=>do
    let o ←a9 n
    pure (n,o)
  |_=>fail
def collect{α β:Type}(f:α->Option (List β)):List α->Option (List β)
 |[]=>some []
 |x::l=>match f x with
  |none=>none
  |some a=>match collect f l with
   |none=>none
   |some b=>some<|a++b
def jl(P:Program)(U7:aJ):Nat->AF->AS->Option (List<|(AF×Option Code)×AS)
 |0,_,_=>none
 |f+1,fr,s=>
  match rU fr with
  |some (it,o,ops,rest,k)=>
   match nX fr it s with
   | .ok (n,.iter m es exact left _) s=>
    match left with
    |[]=>match mP P U7 fr n m es exact o ops rest k s with
     | .ok fr s=>jl P U7 f fr s
     | .bad=>none
    |_::_=>collect (fun(x:(AV×AV)×List (AV×AV))=>
     match m9 P U7 fr n (.iter m es exact x.2<|some x.1) o ops rest k (.tuple [.bool true,x.1.1,x.1.2]) s with
     | .ok fr s=>jl P U7 f fr s
     | .bad=>none) (pa left)
   |_=>none
  |none=>match gk P U7 fr s with
   | .ok (.go fr) s=>jl P U7 f fr s
   | .ok (.leave fr j) s=>some [((fr,j),s)]
   | .bad=>none
def finish(P:Program)(rs:List ResultVar)(fr:AF)(j:Option Code):M AV:=do
 fL (match j with|none|some .ret=>true|_=>false)
 jj fr.defers
 let vs ←kW P fr.tmps rs
 match vs with
 |[v]=>pure v
 |_=>pure<|.tuple vs
def lR(P:Program)(rs:List ResultVar):List ((AF×Option Code)×AS)->Option (List<|AV×AS)
 |[]=>some []
 |((fr,j),s)::l=>match finish P rs fr j s with
  | .bad=>none
  | .ok v s1=>match lR P rs l with
   |none=>none
   |some r=>some<|(v,s1)::r
def OC(a b:AV×AV):Bool:=
 match a.1,b.1 with
 | .int _ x,.int _ y=>decide<|x<y
 |_,_=>false
def AD(x:AV×AV):List (AV×AV)->List (AV×AV)
 |[]=>[x]
 |y::l=>match OC y x with
  |true=>y::AD x l
  |false=>x::y::l
def o5:List (AV×AV)->List (AV×AV)
 |[]=>[]
 |x::l=>AD x<|o5 l
def AQ(k:AV):List (AV×AV)->Bool
 |[]=>false
 |(x,_)::l=>match sameKey k x with
  |some false=>AQ k l
  |_=>true
def sL:List (AV×AV)->Bool
 |[]=>true
 |(x,_)::l=>match AQ x l with
  |true=>false
  |false=>sL l
def ux:List (Nat×List (AV×AV))->Bool
 |[]=>true
 |(_,es)::l=>match sL es with
  |true=>ux l
  |false=>false
def Dh(n:Nat)(l:List Nat):List Nat:=
 match oi n l with
 |true=>l
 |false=>n::l
def lb:List Nat->List Nat
 |[]=>[]
 |x::l=>Dh x<|lb l
def pj(s:AS)(n:Nat):Option<|List<|AV×AV:=
 match s.h.get n with
 |some (.map es _)=>some es
 |some (.cW es)=>some es
 |_=>none
def Pz:AV->Bool
 | .int _ _=>true
 |_=>false
inductive pJ where
 |none
 |nil
 |row (n:Nat) (l:List AV) (len e:Nat)
def jv(lo:Nat)(s:AS):AV->Option pJ
 | .tuple []=>some .none
 | .slice none 0 (.known 0)=>some .nil
 | .slice (some (n,0)) len (.aU c e)=>match s.h.get n with
  |some (.cells k t z)=>match fy t z k 0 with
   |some l=>match (Nat.ble lo n&&Nat.blt n s.nx)&&(l.all Pz&&(Nat.ble len c&&Nat.ble l.length top)) with
    |true=>some<|.row n l len e
    |false=>none
   |none=>none
  |_=>none
 |_=>none
def uY:List (AV×AV)->List (AV×AV)->Bool
 |[],[]=>true
 |a::l,b::m=>match sameBits a.1 b.1&&sameBits a.2 b.2 with
  |true=>uY l m
  |false=>false
 |_,_=>false
def oX:pJ->pJ->Bool
 | .none,.none=>true
 | .nil,.nil=>true
 | .row a l n e,.row b m k f=>Nat.beq a b&&(lY l m&&(Nat.beq n k&&Nat.beq e f))
 |_,_=>false
def l5:AV->AV
 | .tuple (x::_)=>x
 |v=>v
def qv:AV->Option (List AV)
 | .tuple (_::l)=>some l
 |_=>none
def CZ:Option (List AV)->Option (List AV)->Bool
 |none,none=>true
 |some l,some m=>lY l m
 |_,_=>false
def w7:Option (List AV)->AV->AV
 |none,x=>x
 |some l,x=>.tuple<|x::l
def qD(s:AS):List (Nat×List (AV×AV))->Bool
 |[]=>true
 |(n,es)::l=>match pj s n with
  |none=>false
  |some fs=>match uY (o5 fs) es with
   |true=>qD s l
   |false=>false
def fits(lo:Nat)(ns:List Nat)(es:List<|Nat×List (AV×AV))(r:pJ)(rest:Option<|List AV):List (AV×AS)->Bool
 |[]=>true
 |(v,s)::l=>match (below lo s.wr).all (fun n=>oi n ns)&&qD s es with
  |false=>false
  |true=>match jv lo s (l5 v) with
   |none=>false
   |some q=>match oX q r&&CZ (qv v) rest with
    |true=>fits lo ns es r rest l
    |false=>false
def entriesOf(s:AS):List Nat->Option (List<|Nat×List (AV×AV))
 |[]=>some []
 |n::l=>match pj s n with
  |none=>none
  |some es=>match entriesOf s l with
   |none=>none
   |some r=>some<|(n,o5 es)::r
def ma:List (Nat×List (AV×AV))->M Unit
  |[]=>pure ()
  | (n,es)::l=>do
    let _ ←lg n
    ba n (some<|.cW es)
    ma l
def sX:List (AV×AS)->List Nat
 |[]=>[]
 |(_,s)::l=>s.rd++sX l
def km:List Nat->M Unit
  |[]=>pure ()
  | n::l=>do
    let _ ←a9 n
    km l
structure xW where
 note:List Nat
 es:List<|Nat×List (AV×AV)
 ret:pJ
 rest:Option<|List AV
 lo:Nat
 skip:Nat
def pk:List (AV×AS)->Nat
 |[]=>0
 |(_,s)::l=>max s.nx<|pk l
def jS:Nat->M Unit
 |0=>M.pure ()
 |k+1=>(cZ .defs).bind fun n=>(ba n none).bind fun _=>jS k
def o6(lo:Nat)(outs:List<|AV×AS):Option xW:=
 match outs with
 |[]=>none
 |(v,s1)::l=>
  match entriesOf s1 (lb<|below lo s1.wr),jv lo s1 (l5 v) with
  |some es,some r=>match fits lo (lb<|below lo s1.wr) es r (qv v) ((v,s1)::l)&&ux es with
   |false=>none
   |true=>some ⟨below lo<|sX<|(v,s1)::l,es,r,qv v,lo,pk ((v,s1)::l) - lo⟩
  |_,_=>none
def po(lo:Nat)(r:pJ):M AV:=
 match r with
 | .none=>M.pure<|.tuple []
 | .nil=>M.pure<|.slice none 0<|.known 0
 | .row n c len e=>(jS<|n - lo).bind fun _=>(newRow c).bind fun m=>aB (Nat.beq m n) <| M.pure<|.slice (some (n,0)) len<|.aU len e
def xu(p:xW):M AV:=(km p.note).bind fun _=>(ma p.es).bind fun _=>(po p.lo p.ret).bind fun v=>(jS p.skip).bind fun _=>M.pure<|w7 p.rest v
def w8(P:Program)(U7:aJ)(f ntmps:Nat)(rs:List ResultVar)(body:Code)(args:List AV):AS->Option (List<|AV×AS):=fun s=>
 match jl P U7 100000 ⟨f,bG args,max ntmps args.length,[.code body],[],none⟩ s with
 |some l=>lR P rs l
 |none=>none
def qE(P:Program)(U7:aJ)(f ntmps:Nat)(rs:List ResultVar)(body:Code)(args:List AV):M AV:=fun s=>
 match Nat.ble (max ntmps args.length) top with
 |false=>.bad
 |true=>match w8 P U7 f ntmps rs body args ⟨s.h,s.nx,s.nx,[],[]⟩ with
  |none=>.bad
  |some outs=>match o6 s.nx outs with
   |none=>.bad
   |some p=>xu p s
def depth:Nat:=24
def qe:List AV->M AV
  | [.iface t (.map (some r))]=>do
    match ←a9 r with
    | .map es aM=>do
      let n ←cZ (.map es aM)
      pure (.iface t<|.map<|some n)
    | .cW es=>do
      let n ←cZ (.cW es)
      pure (.iface t<|.map<|some n)
    |_=>fail
  |_=>fail
def su:List AV->Option (List<|List UInt8)
 |[]=>some []
 | .str s::l=>match su l with
  |none=>none
  |some r=>some<|s.data.toList::r
 |_::_=>none
def mM(sep:List UInt8):List (List UInt8)->List UInt8
 |[]=>[]
 |[x]=>x
 |x::l=>x++(sep++mM sep l)
def oT:List AV->M AV
  | [.slice a n c,.str sep]=>do
    fL (Nat.ble n<|fA n c)
    let l ←firstCells 1 n (.slice a n c)
    let ts ←lift (su l)
    fL (Nat.ble ((mM sep.data.toList ts).length+n) 1048576)
    pure (.str ⟨(mM sep.data.toList ts).toArray⟩)
  |_=>fail
def vp(P:Program)(f ntmps:Nat)(rs:List ResultVar)(body:Code)(U7:aJ)(args:List AV):M AV:=
 aB (Nat.ble (max ntmps args.length) top) <|
 (jR P U7 depth 2 ⟨f,bG args,max ntmps args.length,[.code body],[],none⟩).bind fun st=> @bN.rec (fun _=>M AV) (fun _=>fail) (fun fr j=>finish P rs fr j) st
def qU(P:Program)(cL:FuncId->Nat)(f:FuncId):lE<|aJ->List AV->M AV:=
 match cL f with
 |2=>.mk fun _ args=>qe args
 |3=>.mk fun _ args=>oT args
 |w=>match P.funcs[f]? with
  |none=>.mk fun _ _=>fail
  |some fn=>match fn.body with
   |none=>.mk fun _ _=>fail
   |some body=>match fn.name == "runtime.NumGoroutine" with
    |true=>.mk fun _ _=>fail
    |false=>match Nat.beq w 1 with
     |true=>.mk fun U7 args=>qE P U7 f fn.ntmps fn.results.toList body args
     |false=>.mk<|vp P f fn.ntmps fn.results.toList body
def endRound(l:Nat)(j:Option Code):M AV:=(getLoop l).bind fun o=>match o with
 | .loop _ _ fn t nt ps a b d=>(ba l<|some<|.loop (match j with|none=>.ready|some _=>.done) j fn t nt ps a b d).bind fun _=>M.pure<|.bool j.isNone
 |_=>fail
def rV(P:Program)(U7:aJ)(l:Nat)(args:List AV):M AV:=(getLoop l).bind fun o=>match o with
 | .loop _ _ fn t nt ps a b _=>
  aB (and (Nat.beq args.length ps.length)<|ps.all fun p=>Nat.blt p nt) <|
  (jR P U7 depth 2 ⟨fn,kl ps args t,nt,[.code a,.beginRound,.code b],[],some l⟩).bind fun st=> @bN.rec (fun _=>M AV) (fun _=>fail) (fun _ j=>endRound l j) st
 |_=>fail
def oj(P:Program)(cL:FuncId->Nat)(n:Nat):aJ:= @Nat.rec (fun _=>aJ) (fun _ _=>fail) (fun _ ih t args=> @yC.rec (fun _=>M AV) (fun f=>(qU P cL f).val ih args) (fun l=>rV P ih l args) (fun _ _ _=>fail) t) n
end
end Go.Rn
namespace Go.Rn
structure xD (A:Nat->Prop) (m0:Nat) (s t:AS):Prop where
 nx:s.nx=t.nx
 mark:s.mark=t.mark
 low:m0<=s.mark
 is:∀k,k<s.nx->(A k\/m0<=k)->s.h.get k=t.h.get k
structure aS (s:AS):Prop where
 mark:s.mark<=s.nx
 nx:s.nx<=top
structure iw (s s1:AS) (dr dw:List Nat):Prop where
 rd:s1.rd=dr++s.rd
 wr:s1.wr=dw++s.wr
 nx:s.nx<=s1.nx
 top:s1.nx<=top
 mark:s1.mark=s.mark
 same:∀k,k<s.mark->k ∉ dw->s1.h.get k=s.h.get k
 sub:∀k∈dw,k∈dr
 dB:∀k,s1.nx<=k->k<Rn.top->s1.h.get k=s.h.get k
theorem iw.bo{s s1:AS}{dr dw:List Nat}(f:aS s)(d:iw s s1 dr dw):aS s1:=⟨by rw[d.mark];exact Nat.le_trans f.mark d.nx,d.top⟩
structure np (A:Nat->Prop) (m0:Nat) (s1 t t1:AS) (dr dw:List Nat):Prop where
 ku:xD A m0 s1 t1
 rd:t1.rd=dr++t.rd
 wr:t1.wr=dw++t.wr
 same:∀k,k<m0->k ∉ dw->t1.h.get k=t.h.get k
 dB:∀k,s1.nx<=k->k<Rn.top->t1.h.get k=t.h.get k
def U5{α:Type}(m:M α):Prop:=∀s v s1,aS s->m s= .ok v s1->∃dr dw,iw s s1 dr dw/\∀A m0 t,xD A m0 s t->(∀k∈dr,k<m0->A k)->∃t1,m t= .ok v t1/\np A m0 s1 t t1 dr dw
theorem M.bg{α β:Type}{m:M α}{f:α->M β}{s s1:AS}{a:α}(h:m s= .ok a s1):(m.bind f) s=f a s1:=by unfold M.bind;rw[h]
theorem M.OD{α β:Type}{m:M α}{f:α->M β}{s:AS}(h:m s= .bad):(m.bind f) s= .bad:=by unfold M.bind;rw[h]
theorem M.aL{α β:Type}{m:M α}{f:α->M β}{s s2:AS}{b:β}(h:(m.bind f) s= .ok b s2):∃a s1,m s= .ok a s1/\f a s1= .ok b s2:=by
 cases e:m s with
 |bad=>rw[M.OD e] at h;cases h
 |ok a s1=>rw[M.bg e] at h;exact⟨a,s1,rfl,h⟩
theorem bind_eq{α β:Type}(m:M α)(f:α->M β):(m >>= f)=m.bind f:=rfl
theorem PA{α:Type}(a:α):(pure a:M α)=M.pure a:=rfl
theorem aO{α β:Type}(a:α)(f:α->M β):aG (some a) f=f a:=rfl
theorem bD{β:Type}(m:M β):aB true m=m:=rfl
theorem bd{α β:Type}{o:Option α}{f:α->M β}{s s1:AS}{b:β}(h:aG o f s= .ok b s1):∃a,o=some a/\f a s= .ok b s1:=by
 cases o with
 |none=>cases h
 |some a=>exact⟨a,rfl,h⟩
theorem bP{β:Type}{c:Bool}{m:M β}{s s1:AS}{b:β}(h:aB c m s= .ok b s1):c=true/\m s= .ok b s1:=by
 cases c with
 |false=>cases h
 |true=>exact⟨rfl,h⟩
theorem aQ{α:Type}{a b:α}{s s1:AS}(h:M.pure a s= .ok b s1):b=a/\s1=s:=by cases h;exact⟨rfl,rfl⟩
theorem dt{α:Type}{o:Option α}{b:α}{s s1:AS}(h:lift o s= .ok b s1):o=some b/\s1=s:=by
 cases o with
 |none=>cases h
 |some a=>cases h;exact⟨rfl,rfl⟩
theorem U5.pure{α:Type}(a:α):U5<|M.pure a:=by intro s v s1 fi h;obtain⟨rfl,rfl⟩:=aQ h;exact⟨[],[],⟨rfl,rfl,Nat.le_refl _,fi.nx,rfl,fun _ _ _=>rfl,fun _ h=>h,fun _ _ _=>rfl⟩,fun A m0 t ag _=>⟨t,rfl,ag,rfl,rfl,fun _ _ _=>rfl,fun _ _ _=>rfl⟩⟩
theorem U5.fail{α:Type}:U5 (fail:M α):=by intro s v s1 _ h;cases h
theorem U5.aG{α β:Type}{o:Option α}{f:α->M β}(h:∀a,o=some a->U5 (f a)):U5<|aG o f:=by
 cases o with
 |none=>exact U5.fail
 |some a=>exact h a rfl
theorem U5.aB{β:Type}{c:Bool}{m:M β}(h:c=true->U5 m):U5<|aB c m:=by
 cases c with
 |false=>exact U5.fail
 |true=>exact h rfl
theorem U5.lift{α:Type}(o:Option α):U5<|lift o:=by
 cases o with
 |none=>exact U5.fail
 |some a=>exact U5.pure a
theorem U5.fL(b:Bool):U5<|fL b:=by
 cases b with
 |false=>exact U5.fail
 |true=>exact U5.pure ()
theorem U5.bind{α β:Type}{m:M α}{f:α->M β}(hm:U5 m)(hf:∀a,U5<|f a):U5<|m.bind f:=by
 intro s v s2 fi h;obtain⟨a,s1,h1,h2⟩:=M.aL h;obtain⟨dr,dw,d,x⟩:=hm s a s1 fi h1;obtain⟨lF,jc,d',x'⟩:=hf a s1 v s2 (d.bo fi) h2;refine⟨lF++dr,jc++dw,⟨by rw[d'.rd,d.rd,List.append_assoc],by rw[d'.wr,d.wr,List.append_assoc],Nat.le_trans d.nx d'.nx,d'.top,d'.mark.trans d.mark,?_,?_,?_⟩,?_⟩
 ·intro k hk hn;have nB:k ∉ jc:=fun e=>hn<|List.mem_append.2<|.inl e;have jZ:k ∉ dw:=fun e=>hn<|List.mem_append.2<|.inr e;exact(d'.same k (by rw[d.mark];exact hk) nB).trans<|d.same k hk jZ
 ·intro k hk;rcases List.mem_append.1 hk with e|e
  ·exact List.mem_append.2<|.inl<|d'.sub k e
  ·exact List.mem_append.2<|.inr<|d.sub k e
 ·intro k hk ht;exact(d'.dB k hk ht).trans<|d.dB k (Nat.le_trans d'.nx hk) ht
 ·intro A m0 t ag hA;obtain⟨t1,e1,al⟩:=x A m0 t ag fun k hk aW=>hA k (List.mem_append.2<|.inr hk) aW;obtain⟨t2,e2,lH⟩:=x' A m0 t1 al.ku fun k hk aW=>hA k (List.mem_append.2<|.inl hk) aW;refine⟨t2,by rw[M.bg e1];exact e2,lH.ku,by rw[lH.rd,al.rd,List.append_assoc],by rw[lH.wr,al.wr,List.append_assoc],?_,?_⟩
  ·intro k hk hn;have nB:k ∉ jc:=fun e=>hn<|List.mem_append.2<|.inl e;have jZ:k ∉ dw:=fun e=>hn<|List.mem_append.2<|.inr e;exact(lH.same k hk nB).trans<|al.same k hk jZ
  ·intro k hk ht;exact(lH.dB k hk ht).trans<|al.dB k (Nat.le_trans d'.nx hk) ht
theorem blt_eq(n m:Nat):(Nat.blt n m=true)=(n<m):=by show(Nat.ble (n+1) m=true)=_;rw[Nat.ble_eq];rfl
theorem uN{α:Type}(a b:α)(n m:Nat): @Bool.rec (fun _=>α) a b (Nat.blt n m)=if n<m then b else a:=by
 rw[CW];by_cases h:n<m
 ·rw[if_pos h,if_pos (by rw[blt_eq];exact h)]
 ·rw[if_neg h,if_neg (by rw[blt_eq];exact h)]
theorem Di{n:Nat}{o:U}{s s1:AS}(h:a9 n s= .ok o s1):
 n<s.nx/\s.h.get n=some o/\s1=if n<s.mark then{s with rd:=n::s.rd} else s:=by
 obtain⟨hh,nx,mark,rd,wr⟩:=s;cases hb:Nat.blt n nx with
 |false=>
  have:a9 n ⟨hh,nx,mark,rd,wr⟩= .bad:=by show @Bool.rec (fun _=>R U) .bad _ (Nat.blt n nx)=_;rw[hb]
  rw[this] at h;cases h
 |true=>
  cases hg:hh.get n with
  |none=>
   have:a9 n ⟨hh,nx,mark,rd,wr⟩= .bad:=by show @Bool.rec (fun _=>R U) .bad (@Option.rec U (fun _=>R U) .bad _<|hh.get n) (Nat.blt n nx)=_;rw[hb,hg]
   rw[this] at h;cases h
  |some o'=>
   have:a9 n ⟨hh,nx,mark,rd,wr⟩= @Bool.rec (fun _=>R U) (.ok o' ⟨hh,nx,mark,rd,wr⟩) (.ok o' ⟨hh,nx,mark,n::rd,wr⟩) (Nat.blt n mark):=by show @Bool.rec (fun _=>R U) .bad (@Option.rec U (fun _=>R U) .bad _<|hh.get n) (Nat.blt n nx)=_;rw[hb,hg]
   rw[this] at h;have aW:n<nx:=by rw[←blt_eq];exact hb
   cases hm:Nat.blt n mark with
   |false=>
    rw[hm] at h;cases h;have:¬n<mark:=by rw[←blt_eq,hm];simp
    exact⟨aW,by first|exact hg|rfl,by simp[this]⟩
   |true=>
    rw[hm] at h;cases h;have:n<mark:=by rw[←blt_eq];exact hm
    exact⟨aW,by first|exact hg|rfl,by simp[this]⟩
theorem Jk{n:Nat}{o:U}{s:AS}(h1:n<s.nx)(h2:s.h.get n=some o):
 a9 n s= .ok o (if n<s.mark then{s with rd:=n::s.rd} else s):=by
 obtain⟨hh,nx,mark,rd,wr⟩:=s;have hb:Nat.blt n nx=true:=by rw[blt_eq];exact h1
 have hg:hh.get n=some o:=h2;show @Bool.rec (fun _=>R U) .bad (@Option.rec U (fun _=>R U) .bad (fun o=> @Bool.rec (fun _=>R U) (.ok o ⟨hh,nx,mark,rd,wr⟩) (.ok o ⟨hh,nx,mark,n::rd,wr⟩)<|Nat.blt n mark)<|hh.get n) (Nat.blt n nx)=_;rw[hb,hg];show @Bool.rec (fun _=>R U) _ _ (Nat.blt n mark)=_;rw[uN];by_cases e:n<mark<;>simp[e]
theorem IJ{n:Nat}{o:Option U}{u:Unit}{s s1:AS}(h:ba n o s= .ok u s1):
 n<s.nx/\n<top/\(∃p,s.h.get n=some p/\p.bQ=false)/\s1=if n<s.mark then{s with h:=s.h.put n o,rd:=n::s.rd,wr:=n::s.wr} else{s with h:=s.h.put n o}:=by
 obtain⟨hh,nx,mark,rd,wr⟩:=s;have e:ba n o ⟨hh,nx,mark,rd,wr⟩= @Bool.rec (fun _=>R Unit) .bad
  (@Option.rec U (fun _=>R Unit) .bad
   (fun p=> @Bool.rec (fun _=>R Unit)
    (@Bool.rec (fun _=>R Unit) (.ok () ⟨hh.put n o,nx,mark,rd,wr⟩) (.ok () ⟨hh.put n o,nx,mark,n::rd,n::wr⟩)<|Nat.blt n mark)
    .bad p.bQ)
   (hh.get n))
  (and (Nat.blt n nx)<|Nat.blt n top):=rfl
 rw[e] at h;cases hb:and (Nat.blt n nx) (Nat.blt n top) with
 |false=>rw[hb] at h;cases h
 |true=>
  rw[hb] at h;have ft:=Bool.and_eq_true_iff.1 hb;rw[blt_eq,blt_eq] at ft;cases hg:hh.get n with
  |none=>rw[hg] at h;cases h
  |some p=>
   rw[hg] at h;cases hr:p.bQ with
   |true=>
    have h': @Bool.rec (fun _=>R Unit)
     (@Bool.rec (fun _=>R Unit) (.ok () ⟨hh.put n o,nx,mark,rd,wr⟩) (.ok () ⟨hh.put n o,nx,mark,n::rd,n::wr⟩)<|Nat.blt n mark)
     .bad p.bQ= .ok u s1:=h
    rw[hr] at h';cases h'
   |false=>
    have h': @Bool.rec (fun _=>R Unit)
     (@Bool.rec (fun _=>R Unit) (.ok () ⟨hh.put n o,nx,mark,rd,wr⟩) (.ok () ⟨hh.put n o,nx,mark,n::rd,n::wr⟩)<|Nat.blt n mark)
     .bad p.bQ= .ok u s1:=h
    rw[hr] at h';refine⟨ft.1,ft.2,⟨p,by first|exact hg|rfl,hr⟩,?_⟩;have yE: @Bool.rec (fun _=>R Unit) (.ok () ⟨hh.put n o,nx,mark,rd,wr⟩) (.ok () ⟨hh.put n o,nx,mark,n::rd,n::wr⟩) (Nat.blt n mark)= .ok u s1:=h';rw[uN] at yE;by_cases e:n<mark
    ·rw[if_pos e] at yE;injection yE with _ h3;simp[e, ←h3]
    ·rw[if_neg e] at yE;injection yE with _ h3;simp[e, ←h3]
theorem Jl{n:Nat}{o:Option U}{s:AS}{p:U}(h1:n<s.nx)(h2:n<top)(h3:s.h.get n=some p)(h4:p.bQ=false):
 ba n o s= .ok () (if n<s.mark then{s with h:=s.h.put n o,rd:=n::s.rd,wr:=n::s.wr} else{s with h:=s.h.put n o}):=by
 obtain⟨hh,nx,mark,rd,wr⟩:=s;have e:ba n o ⟨hh,nx,mark,rd,wr⟩= @Bool.rec (fun _=>R Unit) .bad
  (@Option.rec U (fun _=>R Unit) .bad
   (fun p=> @Bool.rec (fun _=>R Unit)
    (@Bool.rec (fun _=>R Unit) (.ok () ⟨hh.put n o,nx,mark,rd,wr⟩) (.ok () ⟨hh.put n o,nx,mark,n::rd,n::wr⟩)<|Nat.blt n mark)
    .bad p.bQ)
   (hh.get n))
  (and (Nat.blt n nx)<|Nat.blt n top):=rfl
 have hb:and (Nat.blt n nx) (Nat.blt n top)=true:=Bool.and_eq_true_iff.2 ⟨by rw[blt_eq];exact h1,by rw[blt_eq];exact h2⟩;have hg:hh.get n=some p:=h3;rw[e,hb,hg];show @Bool.rec (fun _=>R Unit) (@Bool.rec (fun _=>R Unit) (.ok () ⟨hh.put n o,nx,mark,rd,wr⟩) (.ok () ⟨hh.put n o,nx,mark,n::rd,n::wr⟩)<|Nat.blt n mark) .bad p.bQ=_;rw[h4];show @Bool.rec (fun _=>R Unit) (.ok () ⟨hh.put n o,nx,mark,rd,wr⟩) (.ok () ⟨hh.put n o,nx,mark,n::rd,n::wr⟩) (Nat.blt n mark)=_;rw[uN];by_cases e:n<mark<;>simp[e]
theorem kX{o:U}{n:Nat}{s s1:AS}(h:cZ o s= .ok n s1):s.nx<top/\n=s.nx/\s1={s with h:=s.h.put s.nx<|some o,nx:=s.nx+1}:=by
 obtain⟨hh,nx,mark,rd,wr⟩:=s;have e:cZ o ⟨hh,nx,mark,rd,wr⟩= @Bool.rec (fun _=>R Nat) .bad (forced nx fun m=>.ok m ⟨hh.put m<|some o,m+1,mark,rd,wr⟩) (Nat.blt nx top):=rfl;rw[e,qc] at h;cases hb:Nat.blt nx top with
 |false=>rw[hb] at h;cases h
 |true=>rw[hb] at h;cases h;exact⟨by rw[←blt_eq];exact hb,rfl,rfl⟩
theorem An{o:U}{s:AS}(h:s.nx<top):cZ o s= .ok s.nx {s with h:=s.h.put s.nx<|some o,nx:=s.nx+1}:=by
 obtain⟨hh,nx,mark,rd,wr⟩:=s;have e:cZ o ⟨hh,nx,mark,rd,wr⟩= @Bool.rec (fun _=>R Nat) .bad (forced nx fun m=>.ok m ⟨hh.put m<|some o,m+1,mark,rd,wr⟩) (Nat.blt nx top):=rfl;have hb:Nat.blt nx top=true:=by rw[blt_eq];exact h
 rw[e,qc,hb]
theorem U5.a9(n:Nat):U5<|a9 n:=by
 intro s v s1 fi h;obtain⟨h1,h2,rfl⟩:=Di h;by_cases e:n<s.mark
 ·rw[if_pos e];refine⟨[n],[],⟨rfl,rfl,Nat.le_refl _,fi.nx,rfl,fun _ _ _=>rfl,fun _ h=>(by cases h),fun _ _ _=>rfl⟩,fun A m0 t ag hA=>?_⟩;have hq:A n\/m0<=n:=by
   by_cases q:n<m0
   ·exact .inl<|hA n (by simp) q
   ·exact .inr (by omega)
  have hg:=ag.is n h1 hq;have hr:=Jk (o:=v) (s:=t) (n:=n) (by rw[←ag.nx];exact h1) (by rw[←hg];exact h2);rw[←ag.mark,if_pos e] at hr;exact⟨_,hr,⟨ag.nx,by first|exact ag.mark|rfl,ag.low,ag.is⟩,rfl,rfl,fun _ _ _=>rfl,fun _ _ _=>rfl⟩
 ·rw[if_neg e];refine⟨[],[],⟨rfl,rfl,Nat.le_refl _,fi.nx,rfl,fun _ _ _=>rfl,fun _ h=>(by cases h),fun _ _ _=>rfl⟩,fun A m0 t ag hA=>?_⟩;have hg:=ag.is n h1 (.inr<|Nat.le_trans ag.low<|by omega);have hr:=Jk (o:=v) (s:=t) (n:=n) (by rw[←ag.nx];exact h1) (by rw[←hg];exact h2);rw[←ag.mark,if_neg e] at hr;exact⟨_,hr,ag,rfl,rfl,fun _ _ _=>rfl,fun _ _ _=>rfl⟩
theorem U5.ba(n:Nat)(o:Option U):U5<|ba n o:=by
 intro s v s1 fi h;obtain⟨h1,ht,⟨p,h2,h3⟩,rfl⟩:=IJ h;by_cases e:n<s.mark
 ·rw[if_pos e];refine⟨[n],[n],⟨rfl,rfl,Nat.le_refl _,fi.nx,rfl,fun k hk hn=>?_,fun _ h=>h,fun k hk eX=>?_⟩,fun A m0 t ag hA=>?_⟩
  ·show(s.h.put n o).get k=_;rw[Tr.cV _ _ _ _ ht (by have:=fi.mark;have:=fi.nx;omega),if_neg<|by simpa using hn]
  ·show(s.h.put n o).get k=_;have:s.nx<=k:=hk;rw[Tr.cV _ _ _ _ ht eX,if_neg<|by omega]
  ·have hq:A n\/m0<=n:=by
    by_cases q:n<m0
    ·exact .inl<|hA n (by simp) q
    ·exact .inr (by omega)
   have hg:=ag.is n h1 hq;have hr:=Jl (o:=o) (s:=t) (n:=n) (p:=p) (by rw[←ag.nx];exact h1) ht (by rw[←hg];exact h2) h3;rw[←ag.mark,if_pos e] at hr;refine⟨_,hr,⟨ag.nx,by first|exact ag.mark|rfl,ag.low,fun k hk hq=>?_⟩,rfl,rfl,fun k hk hn=>?_,fun k hk eX=>?_⟩
   ·show(s.h.put n o).get k=(t.h.put n o).get k;have fu:k<s.nx:=hk;have:=fi.nx;rw[Tr.cV _ _ _ _ ht (by omega),Tr.cV _ _ _ _ ht<|by omega];by_cases q:k=n
    ·simp[q]
    ·rw[if_neg q,if_neg q];exact ag.is k hk hq
   ·show(t.h.put n o).get k=_;have:=fi.mark;have:=fi.nx;have:=ag.low;rw[Tr.cV _ _ _ _ ht (by omega),if_neg<|by simpa using hn]
   ·show(t.h.put n o).get k=_;have:s.nx<=k:=hk;rw[Tr.cV _ _ _ _ ht eX,if_neg<|by omega]
 ·rw[if_neg e];refine⟨[],[],⟨rfl,rfl,Nat.le_refl _,fi.nx,rfl,fun k hk hn=>?_,fun _ h=>h,fun k hk eX=>?_⟩,fun A m0 t ag hA=>?_⟩
  ·show(s.h.put n o).get k=_;have:=fi.mark;have:=fi.nx;rw[Tr.cV _ _ _ _ ht (by omega),if_neg<|by omega]
  ·show(s.h.put n o).get k=_;have:s.nx<=k:=hk;rw[Tr.cV _ _ _ _ ht eX,if_neg<|by omega]
  ·have hg:=ag.is n h1 (.inr<|Nat.le_trans ag.low<|by omega);have hr:=Jl (o:=o) (s:=t) (n:=n) (p:=p) (by rw[←ag.nx];exact h1) ht (by rw[←hg];exact h2) h3;rw[←ag.mark,if_neg e] at hr;refine⟨_,hr,⟨ag.nx,by first|exact ag.mark|rfl,ag.low,fun k hk hq=>?_⟩,rfl,rfl,fun k hk hn=>?_,fun k hk eX=>?_⟩
   ·show(s.h.put n o).get k=(t.h.put n o).get k;have fu:k<s.nx:=hk;have:=fi.nx;rw[Tr.cV _ _ _ _ ht (by omega),Tr.cV _ _ _ _ ht<|by omega];by_cases q:k=n
    ·simp[q]
    ·rw[if_neg q,if_neg q];exact ag.is k hk hq
   ·show(t.h.put n o).get k=_;have:=fi.mark;have:=fi.nx;have:=ag.low;rw[Tr.cV _ _ _ _ ht (by omega),if_neg<|by omega]
   ·show(t.h.put n o).get k=_;have:s.nx<=k:=hk;rw[Tr.cV _ _ _ _ ht eX,if_neg<|by omega]
theorem U5.cZ(o:U):U5<|cZ o:=by
 intro s v s1 fi h;obtain⟨ht,rfl,rfl⟩:=kX h;refine⟨[],[],⟨rfl,rfl,Nat.le_succ _,ht,rfl,fun k hk hn=>?_,fun _ h=>h,fun k hk eX=>?_⟩,fun A m0 t ag hA=>?_⟩
 ·show(s.h.put s.nx<|some o).get k=_;have:=fi.mark;have:=fi.nx;rw[Tr.cV _ _ _ _ ht (by omega),if_neg<|by omega]
 ·show(s.h.put s.nx<|some o).get k=_;have:s.nx+1<=k:=hk;rw[Tr.cV _ _ _ _ ht eX,if_neg<|by omega]
 ·have hr:=An (o:=o) (s:=t) (by rw[←ag.nx];exact ht);rw[←ag.nx] at hr;refine⟨_,hr,⟨rfl,ag.mark,ag.low,fun k hk hq=>?_⟩,rfl,rfl,fun k hk hn=>?_,fun k hk eX=>?_⟩
  ·show(s.h.put s.nx<|some o).get k=(t.h.put s.nx<|some o).get k;have fu:k<s.nx+1:=hk;rw[Tr.cV _ _ _ _ ht (by omega),Tr.cV _ _ _ _ ht<|by omega];by_cases q:k=s.nx
   ·simp[q]
   ·rw[if_neg q,if_neg q];exact ag.is k (by omega) hq
  ·show(t.h.put s.nx<|some o).get k=_;have:=fi.mark;have:=fi.nx;have:=ag.low;rw[Tr.cV _ _ _ _ ht (by omega),if_neg<|by omega]
  ·show(t.h.put s.nx<|some o).get k=_;have:s.nx+1<=k:=hk;rw[Tr.cV _ _ _ _ ht eX,if_neg<|by omega]
end Go.Rn
namespace Go.Rn
theorem U5.dH(n off k:Nat):U5<|dH n off k:=by
 cases k with
 |zero=>exact U5.pure _
 |succ k=>
  unfold Rn.dH
  repeat' (first
  |exact U5.pure _|exact U5.fail|exact U5.lift _|exact U5.a9 _
  |refine U5.aG (fun _ _=>?_)|refine U5.aB (fun _=>?_)|refine U5.bind ?_ (fun _=>?_)
  |split)
theorem U5.kj(n off:Nat)(l:List AV):U5<|kj n off l:=by
 unfold Rn.kj
 repeat' (first
  |exact U5.pure _|exact U5.fail|exact U5.a9 _|exact U5.ba _ _
  |exact U5.fail
  |refine U5.aG (fun _ _=>?_)|refine U5.aB (fun _=>?_)|refine U5.bind ?_ (fun _=>?_)
  |split)
theorem U5.newRow(l:List AV):U5<|newRow l:=by
 unfold Rn.newRow
 repeat' (first
  |exact U5.pure _|exact U5.fail|exact U5.cZ _
  |exact U5.fail
  |refine U5.aG (fun _ _=>?_)|refine U5.aB (fun _=>?_)|refine U5.bind ?_ (fun _=>?_)
  |split)
theorem U5.loadVar(P:Program)(t:TypeId)(n off:Nat):U5<|loadVar P t n off:=by
 unfold Rn.loadVar
 repeat' (first
  |exact U5.pure _|exact U5.fail|exact U5.lift _
  |exact U5.fail|exact U5.dH _ _ _
  |refine U5.aG (fun _ _=>?_)|refine U5.aB (fun _=>?_)|refine U5.bind ?_ (fun _=>?_)
  |split)
theorem U5.oW(P:Program)(t:TypeId)(n off:Nat):U5<|oW P t n off:=by
 unfold Rn.oW
 repeat' (first
  |exact U5.pure _|exact U5.fail|exact U5.lift _|exact U5.a9 _
  |exact U5.fail
  |refine U5.aG (fun _ _=>?_)|refine U5.aB (fun _=>?_)|refine U5.bind ?_ (fun _=>?_)
  |split)
theorem U5.n6(P:Program)(t:TypeId){U7:aJ}(bh:∀t a,U5<|U7 t a)(n o:Nat):U5<|n6 P t U7 n o:=by
 unfold Rn.n6
 repeat' (first
  |exact U5.pure _|exact U5.fail|exact U5.lift _
  |exact bh _ _
  |refine U5.aG (fun _ _=>?_)|refine U5.aB (fun _=>?_)|refine U5.bind ?_ (fun _=>?_)
  |split)
theorem U5.loadAt(P:Program)(t:TypeId){U7:aJ}(bh:∀t a,U5<|U7 t a)(a:AV):U5<|loadAt P t U7 a:=by
 unfold Rn.loadAt
 repeat' (first
  |exact U5.pure _|exact U5.fail
  |exact bh _ _|exact U5.loadVar _ _ _ _|exact U5.oW _ _ _ _|exact U5.n6 _ _ bh _ _
  |refine U5.aG (fun _ _=>?_)|refine U5.aB (fun _=>?_)|refine U5.bind ?_ (fun _=>?_)
  |split)
theorem U5.storeVar(P:Program)(t:TypeId)(n off:Nat)(v:AV):U5<|storeVar P t n off v:=by
 unfold Rn.storeVar
 repeat' (first
  |exact U5.pure _|exact U5.fail
  |exact U5.fail|exact U5.kj _ _ _
  |refine U5.aG (fun _ _=>?_)|refine U5.aB (fun _=>?_)|refine U5.bind ?_ (fun _=>?_)
  |split)
theorem U5.buildSlice(P:Program)(t:TypeId)(len:Nat)(parts:List<|Nat×AV):U5<|buildSlice P t len parts:=by
 unfold Rn.buildSlice
 repeat' (first
  |exact U5.pure _|exact U5.fail|exact U5.lift _|exact U5.fL _
  |exact U5.fail|exact U5.newRow _
  |refine U5.aG (fun _ _=>?_)|refine U5.aB (fun _=>?_)|refine U5.bind ?_ (fun _=>?_)
  |split)
theorem U5.makeSlice(P:Program)(t:TypeId)(len cap:AV):U5<|makeSlice P t len cap:=by
 unfold Rn.makeSlice
 repeat' (first
  |exact U5.pure _|exact U5.fail|exact U5.cZ _
  |exact U5.fail
  |refine U5.aG (fun _ _=>?_)|refine U5.aB (fun _=>?_)|refine U5.bind ?_ (fun _=>?_)
  |split)
theorem U5.firstCells(size n:Nat)(v:AV):U5<|firstCells size n v:=by
 unfold Rn.firstCells
 repeat' (first
  |exact U5.pure _|exact U5.fail
  |exact U5.fail|exact U5.dH _ _ _
  |refine U5.aG (fun _ _=>?_)|refine U5.aB (fun _=>?_)|refine U5.bind ?_ (fun _=>?_)
  |split)
theorem U5.grown(a b c:Nat)(l m:List AV):U5<|grown a b c l m:=by
 unfold Rn.grown
 repeat' (first
  |exact U5.pure _|exact U5.fail
  |exact U5.fail|exact U5.newRow _
  |refine U5.aG (fun _ _=>?_)|refine U5.aB (fun _=>?_)|refine U5.bind ?_ (fun _=>?_)
  |split)
theorem U5.oR(n off:Nat)(l:List AV):U5<|oR n off l:=by
 unfold Rn.oR
 repeat' (first
  |exact U5.pure _|exact U5.fail|exact U5.a9 _|exact U5.ba _ _
  |exact U5.fail
  |refine U5.aG (fun _ _=>?_)|refine U5.aB (fun _=>?_)|refine U5.bind ?_ (fun _=>?_)
  |split)
theorem U5.ji(size bytes:Nat)(base:Option<|Nat×Nat)(len:Nat)(cap:aZ)(n:Nat)(new:List AV):U5<|ji size bytes base len cap n new:=by
 unfold Rn.ji
 repeat' (first
  |exact U5.pure _|exact U5.fail|exact U5.a9 _|exact U5.ba _ _
  |exact U5.fail|exact U5.dH _ _ _|exact U5.kj _ _ _|exact U5.firstCells _ _ _|exact U5.grown _ _ _ _ _|exact U5.oR _ _ _
  |refine U5.aG (fun _ _=>?_)|refine U5.aB (fun _=>?_)|refine U5.bind ?_ (fun _=>?_)
  |split)
theorem U5.gL(P:Program)(ts:Array TypeId)(s x:AV):U5<|gL P ts s x:=by
 unfold Rn.gL
 repeat' (first
  |exact U5.pure _|exact U5.fail
  |exact U5.fail|exact U5.firstCells _ _ _|exact U5.ji _ _ _ _ _ _ _
  |refine U5.aG (fun _ _=>?_)|refine U5.aB (fun _=>?_)|refine U5.bind ?_ (fun _=>?_)
  |split)
theorem U5.qq(P:Program)(ts:Array TypeId)(s x:AV):U5<|qq P ts s x:=by
 unfold Rn.qq
 repeat' (first
  |exact U5.pure _|exact U5.fail
  |exact U5.fail|exact U5.kj _ _ _|exact U5.firstCells _ _ _
  |refine U5.aG (fun _ _=>?_)|refine U5.aB (fun _=>?_)|refine U5.bind ?_ (fun _=>?_)
  |split)
theorem U5.lg(r:Nat):U5<|lg r:=by
 unfold Rn.lg
 repeat' (first
  |exact U5.pure _|exact U5.fail|exact U5.a9 _
  |exact U5.fail
  |refine U5.aG (fun _ _=>?_)|refine U5.aB (fun _=>?_)|refine U5.bind ?_ (fun _=>?_)
  |split)
theorem U5.nZ(P:Program)(k:TypeId)(a x:AV):U5<|nZ P k a x:=by
 unfold Rn.nZ
 repeat' (first
  |exact U5.pure _|exact U5.fail|exact U5.a9 _
  |exact U5.fail
  |refine U5.aG (fun _ _=>?_)|refine U5.aB (fun _=>?_)|refine U5.bind ?_ (fun _=>?_)
  |split)
theorem U5.qB(r:Nat)(a b:AV)(l:List<|AV×AV)(c:Nat)(f:Option<|Nat×AV):U5<|qB r a b l c f:=by
 unfold Rn.qB
 repeat' (first
  |exact U5.pure _|exact U5.fail|exact U5.ba _ _
  |exact U5.fail
  |refine U5.aG (fun _ _=>?_)|refine U5.aB (fun _=>?_)|refine U5.bind ?_ (fun _=>?_)
  |split)
theorem U5.rN(r:Nat)(a b:AV)(l:List<|AV×AV)(f:Option<|Nat×AV):U5<|rN r a b l f:=by
 unfold Rn.rN
 repeat' (first
  |exact U5.pure _|exact U5.fail|exact U5.ba _ _
  |exact U5.fail
  |refine U5.aG (fun _ _=>?_)|refine U5.aB (fun _=>?_)|refine U5.bind ?_ (fun _=>?_)
  |split)
theorem U5.kY(P:Program)(t:TypeId)(x k:AV)(ok:Bool):U5<|kY P t x k ok:=by
 unfold Rn.kY
 repeat' (first
  |exact U5.pure _|exact U5.fail
  |exact U5.fail|exact U5.nZ _ _ _ _
  |refine U5.aG (fun _ _=>?_)|refine U5.aB (fun _=>?_)|refine U5.bind ?_ (fun _=>?_)
  |split)
theorem U5.jP(P:Program)(t:TypeId)(m k v:AV):U5<|jP P t m k v:=by
 unfold Rn.jP
 repeat' (first
  |exact U5.pure _|exact U5.fail|exact U5.a9 _
  |exact U5.fail|exact U5.qB _ _ _ _ _ _|exact U5.rN _ _ _ _ _
  |refine U5.aG (fun _ _=>?_)|refine U5.aB (fun _=>?_)|refine U5.bind ?_ (fun _=>?_)
  |split)
theorem U5.qL(P:Program)(ts:Array TypeId)(x:AV):U5<|qL P ts x:=by
 unfold Rn.qL
 repeat' (first
  |exact U5.pure _|exact U5.fail|exact U5.lift _
  |exact U5.fail|exact U5.lg _
  |refine U5.aG (fun _ _=>?_)|refine U5.aB (fun _=>?_)|refine U5.bind ?_ (fun _=>?_)
  |split)
theorem U5.qu(P:Program)(ts:Array TypeId)(x:AV):U5<|qu P ts x:=by
 unfold Rn.qu
 repeat' (first
  |exact U5.pure _|exact U5.fail|exact U5.lift _|exact U5.fL _
  |exact U5.fail|exact U5.kj _ _ _
  |refine U5.aG (fun _ _=>?_)|refine U5.aB (fun _=>?_)|refine U5.bind ?_ (fun _=>?_)
  |split)
theorem U5.qd(P:Program)(b:Builtin)(ts:Array TypeId)(l:List AV):U5<|qd P b ts l:=by
 unfold Rn.qd
 repeat' (first
  |exact U5.pure _|exact U5.fail|exact U5.lift _
  |exact U5.fail|exact U5.gL _ _ _ _|exact U5.qq _ _ _ _|exact U5.qL _ _ _|exact U5.qu _ _ _
  |refine U5.aG (fun _ _=>?_)|refine U5.aB (fun _=>?_)|refine U5.bind ?_ (fun _=>?_)
  |split)
theorem U5.toText(P:Program)(a b:TypeId)(x:AV)(n:Nat):U5<|toText P a b x n:=by
 unfold Rn.toText
 repeat' (first
  |exact U5.pure _|exact U5.fail
  |exact U5.fail|exact U5.firstCells _ _ _
  |refine U5.aG (fun _ _=>?_)|refine U5.aB (fun _=>?_)|refine U5.bind ?_ (fun _=>?_)
  |split)
theorem U5.zeroOf(x:AV)(n:Nat):U5<|zeroOf x n:=by
 unfold Rn.zeroOf
 repeat' (first
  |exact U5.pure _|exact U5.fail|exact U5.a9 _
  |exact U5.fail
  |refine U5.aG (fun _ _=>?_)|refine U5.aB (fun _=>?_)|refine U5.bind ?_ (fun _=>?_)
  |split)
theorem U5.toZero(P:Program)(a b:TypeId)(x:AV)(n:Nat):U5<|toZero P a b x n:=by
 unfold Rn.toZero
 repeat' (first
  |exact U5.pure _|exact U5.fail
  |exact U5.fail|exact U5.zeroOf _ _
  |refine U5.aG (fun _ _=>?_)|refine U5.aB (fun _=>?_)|refine U5.bind ?_ (fun _=>?_)
  |split)
theorem U5.sk(P:Program)(a:TypeId)(x:AV):U5<|sk P a x:=by
 unfold Rn.sk
 repeat' (first
  |exact U5.pure _|exact U5.fail|exact U5.a9 _|exact U5.ba _ _|exact U5.cZ _
  |exact U5.fail
  |refine U5.aG (fun _ _=>?_)|refine U5.aB (fun _=>?_)|refine U5.bind ?_ (fun _=>?_)
  |split)
theorem U5.uM(x:AV):U5<|uM x:=by
 unfold Rn.uM
 repeat' (first
  |exact U5.pure _|exact U5.fail|exact U5.a9 _
  |exact U5.fail
  |refine U5.aG (fun _ _=>?_)|refine U5.aB (fun _=>?_)|refine U5.bind ?_ (fun _=>?_)
  |split)
theorem U5.uL(x:AV):U5<|uL x:=by
 unfold Rn.uL
 repeat' (first
  |exact U5.pure _|exact U5.fail|exact U5.a9 _|exact U5.ba _ _
  |exact U5.fail
  |refine U5.aG (fun _ _=>?_)|refine U5.aB (fun _=>?_)|refine U5.bind ?_ (fun _=>?_)
  |split)
theorem U5.mN{U7:aJ}(bh:∀t a,U5<|U7 t a)(n o k:Nat):U5<|mN U7 n o k:=by
 unfold Rn.mN
 repeat' (first
  |exact U5.pure _|exact U5.fail
  |exact bh _ _
  |refine U5.aG (fun _ _=>?_)|refine U5.aB (fun _=>?_)|refine U5.bind ?_ (fun _=>?_)
  |split)
theorem U5.jt{U7:aJ}(bh:∀t a,U5<|U7 t a)(f:AV)(l:List AV):U5<|jt U7 f l:=by
 unfold Rn.jt
 repeat' (first
  |exact U5.pure _|exact U5.fail
  |exact bh _ _
  |refine U5.aG (fun _ _=>?_)|refine U5.aB (fun _=>?_)|refine U5.bind ?_ (fun _=>?_)
  |split)
theorem U5.yD(P:Program){U7:aJ}(bh:∀t a,U5<|U7 t a)(t:Tr AV)(op:Op):U5<|yD P U7 t op:=by unfold Rn.yD Rn.bC;split<;>simp only[lE.val]<;>(first|unfold Rn.od|unfold Rn.sU|unfold Rn.Az|unfold Rn.tg|unfold Rn.sE|unfold Rn.rE|unfold Rn.ng|unfold Rn.o4|unfold Rn.rI|unfold Rn.gB|unfold Rn.tH|unfold Rn.rO|unfold Rn.rA|unfold Rn.rJ|unfold Rn.rP|unfold Rn.oQ|unfold Rn.lh|unfold Rn.rH|unfold Rn.sH|unfold Rn.kV|unfold Rn.sI|unfold Rn.kZ|unfold Rn.iR|unfold Rn.sj|unfold Rn.sJ|unfold Rn.sK|unfold Rn.rQ|unfold Rn.rR|unfold Rn.iP|unfold Rn.nh|unfold Rn.sr|unfold Rn.JQ)<;>(repeat' (first|exact U5.pure _|exact U5.fail|exact U5.lift _|exact U5.fL _|exact U5.a9 _|exact U5.ba _ _|exact U5.cZ _|exact bh _ _|exact U5.dH _ _ _|exact U5.kj _ _ _|exact U5.newRow _|exact U5.loadVar _ _ _ _|exact U5.oW _ _ _ _|exact U5.loadAt _ _ bh _|exact U5.storeVar _ _ _ _ _|exact U5.buildSlice _ _ _ _|exact U5.makeSlice _ _ _ _|exact U5.firstCells _ _ _|exact U5.grown _ _ _ _ _|exact U5.oR _ _ _|exact U5.ji _ _ _ _ _ _ _|exact U5.gL _ _ _ _|exact U5.qq _ _ _ _|exact U5.lg _|exact U5.nZ _ _ _ _|exact U5.qB _ _ _ _ _ _|exact U5.rN _ _ _ _ _|exact U5.kY _ _ _ _ _|exact U5.jP _ _ _ _ _|exact U5.qL _ _ _|exact U5.qu _ _ _|exact U5.qd _ _ _ _|exact U5.toText _ _ _ _ _|exact U5.zeroOf _ _|exact U5.toZero _ _ _ _ _|exact U5.sk _ _ _|exact U5.uM _|exact U5.uL _|exact U5.jt bh _ _|exact U5.mN bh _ _ _|refine U5.aG (fun _ _=>?_)|refine U5.aB (fun _=>?_)|refine U5.bind ?_ (fun _=>?_)|split))
end Go.Rn
namespace Go.Rn
theorem lS{k m:Nat}{l:List Nat}:k∈below m l↔k∈l/\k<m:=by
 have h1:∀l:List Nat,k∈nW m l↔k∈l/\k<m:=by
  intro l;induction l with
  |nil=>simp[nW]
  |cons x l ih=>
   have e:nW m (x::l)=if m<=x then nW m l else x::nW m l:=by
    show @Bool.rec (fun _=>List Nat) (nW m l) (x::nW m l) (not<|Nat.ble m x)=_;by_cases h:m<=x
    ·have:Nat.ble m x=true:=by rw[Nat.ble_eq];exact h
     rw[this,if_pos h];rfl
    ·have:Nat.ble m x=false:=by
      cases q:Nat.ble m x with
      |false=>rfl
      |true=>rw[Nat.ble_eq] at q;exact absurd q h
     rw[this,if_neg h];rfl
   rw[e];by_cases h:m<=x
   ·rw[if_pos h,ih];constructor
    ·rintro ⟨a,b⟩;exact⟨List.mem_cons_of_mem _ a,b⟩
    ·rintro ⟨a,b⟩;rcases List.mem_cons.1 a with rfl|a
     ·omega
     ·exact⟨a,b⟩
   ·rw[if_neg h,List.mem_cons,ih,List.mem_cons];constructor
    ·rintro (rfl|⟨a,b⟩)
     ·exact⟨.inl rfl,by omega⟩
     ·exact⟨.inr a,b⟩
    ·rintro ⟨rfl|a,b⟩
     ·exact .inl rfl
     ·exact .inr ⟨a,b⟩
 have e:below m l=if m=0 then[] else nW m l:=by
  show @Bool.rec (fun _=>List Nat) (nW m l) [] (Nat.beq m 0)=_;rw[CW];by_cases h:m=0
  ·rw[if_pos h,if_pos (by rw[beq_eq];exact h)]
  ·rw[if_neg h,if_neg (by rw[beq_eq];exact h)]
 rw[e];by_cases h:m=0
 ·rw[if_pos h];subst h;simp
 ·rw[if_neg h,h1]
theorem Hm{α:Type}{i:Nat}{m:M α}{s s2:AS}{x:α×bM}(h:alone i m s= .ok x s2):
 ∃a s1,m ⟨s.h,s.nx,s.nx,[],[]⟩= .ok a s1/\x=(a,⟨i,below s.nx s1.rd,below s.nx s1.wr,s.nx,s1.nx⟩)/\s2=⟨s1.h,s1.nx,s.mark,below s.mark s1.rd++s.rd,below s.mark s1.wr++s.wr⟩:=by
 obtain⟨hh,nx,mark,rd,wr⟩:=s;have e:alone i m ⟨hh,nx,mark,rd,wr⟩=forced nx fun lo=>
  @R.rec α (fun _=>R<|α×bM) .bad (fun a s1=>
   @AS.rec (fun _=>R<|α×bM) (fun h1 eB _ dq jF=>forced eB fun hi=>.ok (a,⟨i,below lo dq,below lo jF,lo,hi⟩) ⟨h1,hi,mark,below mark dq++rd,below mark jF++wr⟩) s1)
   (m ⟨hh,lo,lo,[],[]⟩):=rfl
 rw[e,qc] at h;cases hm:m ⟨hh,nx,nx,[],[]⟩ with
 |bad=>rw[hm] at h;cases h
 |ok a s1=>rw[hm] at h;obtain⟨h1,eB,D4,dq,jF⟩:=s1;have h':forced eB (fun hi=>R.ok (a,(⟨i,below nx dq,below nx jF,nx,hi⟩:bM)) (⟨h1,hi,mark,below mark dq++rd,below mark jF++wr⟩:AS))= .ok x s2:=h;rw[qc] at h';cases h';exact⟨a,⟨h1,eB,D4,dq,jF⟩,by first|exact hm|rfl,rfl,rfl⟩
theorem OF{α:Type}{i:Nat}{m:M α}{s s1:AS}{a:α}(h:m ⟨s.h,s.nx,s.nx,[],[]⟩= .ok a s1):
 alone i m s= .ok (a,⟨i,below s.nx s1.rd,below s.nx s1.wr,s.nx,s1.nx⟩) ⟨s1.h,s1.nx,s.mark,below s.mark s1.rd++s.rd,below s.mark s1.wr++s.wr⟩:=by
 obtain⟨hh,nx,mark,rd,wr⟩:=s;have e:alone i m ⟨hh,nx,mark,rd,wr⟩=forced nx fun lo=>
  @R.rec α (fun _=>R<|α×bM) .bad (fun a s1=>
   @AS.rec (fun _=>R<|α×bM) (fun h1 eB _ dq jF=>forced eB fun hi=>.ok (a,⟨i,below lo dq,below lo jF,lo,hi⟩) ⟨h1,hi,mark,below mark dq++rd,below mark jF++wr⟩) s1)
   (m ⟨hh,lo,lo,[],[]⟩):=rfl
 rw[e,qc,h];obtain⟨h1,eB,D4,dq,jF⟩:=s1;show forced eB (fun hi=>R.ok (a,(⟨i,below nx dq,below nx jF,nx,hi⟩:bM)) (⟨h1,hi,mark,below mark dq++rd,below mark jF++wr⟩:AS))=_;rw[qc]
theorem U5.alone{α:Type}(i:Nat){m:M α}(hm:U5 m):U5<|alone i m:=by
 intro s v s2 fi h;obtain⟨a,s1,h1,rfl,rfl⟩:=Hm h;obtain⟨dr,dw,d,x⟩:=hm ⟨s.h,s.nx,s.nx,[],[]⟩ a s1 ⟨Nat.le_refl _,fi.nx⟩ h1;have er:s1.rd=dr:=by have:=d.rd;simpa using this
 have ew:s1.wr=dw:=by have:=d.wr;simpa using this
 refine⟨below s.mark dr,below s.mark dw,⟨by show below s.mark s1.rd++s.rd=_;rw[er],by show below s.mark s1.wr++s.wr=_;rw[ew],d.nx,d.top,rfl,?_,?_,d.dB⟩,?_⟩
 ·intro k hk hn;exact d.same k (Nat.lt_of_lt_of_le hk fi.mark) fun e=>hn<|lS.2 ⟨e,hk⟩
 ·intro k hk;obtain⟨a,b⟩:=lS.1 hk;exact lS.2 ⟨d.sub k a,b⟩
 ·intro A m0 t ag hA;obtain⟨t1,e1,al⟩:=x A m0 ⟨t.h,t.nx,t.nx,[],[]⟩ ⟨ag.nx,ag.nx,Nat.le_trans ag.low fi.mark,ag.is⟩ fun k hk aW=>hA k (lS.2 ⟨hk,Nat.lt_of_lt_of_le aW ag.low⟩) aW;have Td:t1.rd=dr:=by have:=al.rd;simpa using this
  have Te:t1.wr=dw:=by have:=al.wr;simpa using this
  have hr:=OF (i:=i) (s:=t) e1;rw[Td,Te, ←ag.nx, ←ag.mark, ←al.ku.nx] at hr;rw[er,ew];refine⟨_,hr,⟨rfl,rfl,ag.low,al.ku.is⟩,rfl,rfl,fun k hk hn=>al.same k hk fun e=>hn<|lS.2 ⟨e,Nat.lt_of_lt_of_le hk ag.low⟩,al.dB⟩
theorem U5.dz(P:Program){U7:aJ}(bh:∀t a,U5<|U7 t a)(nt:Nat)(ops:Array Oper)(o:Oper)(t:Tr AV):U5<|dz P U7 nt ops o t:=by
 have hv:∀t op,U5<|(bC P op).val U7 t:=fun t op=>U5.yD P bh t op;unfold Rn.dz sW;split<;>simp only[lE.val]
 ·unfold mz;refine U5.bind (hv _ _) fun _=>U5.lift _
 ·unfold ni;rename_i g _;refine U5.aB fun _=>?_;cases la ops g t
  ·exact U5.lift _
  ·exact U5.bind (hv _ _) fun _=>U5.lift _
theorem U5.fY(P:Program){U7:aJ}(bh:∀t a,U5<|U7 t a)(nt:Nat)(ops:Array Oper):∀(l:List Oper) (t:Tr AV),U5 (fY P U7 nt ops l t)
 |[],t=>U5.pure t
 |o::l,t=>U5.bind (U5.dz P bh nt ops o t) fun t=>U5.fY P bh nt ops l t
theorem U5.iY(P:Program){U7:aJ}(bh:∀t a,U5<|U7 t a)(nt:Nat)(ops:Array Oper):∀(l:List Oper) (i:Nat) (t:Tr AV),U5 (iY P U7 nt ops l i t)
 |[],_,_=>U5.pure _
 |o::l,i,t=>U5.bind (U5.alone i<|U5.dz P bh nt ops o t) fun x=>U5.bind (U5.iY P bh nt ops l (i+1) x.1) fun _=>U5.pure _
theorem U5.oS(P:Program){U7:aJ}(bh:∀t a,U5<|U7 t a)(nt:Nat)(ops:Array Oper)(t:Tr AV):U5<|oS P U7 nt ops t:=U5.bind (U5.iY P bh nt ops _ _ _) fun _=>U5.aB fun _=>U5.pure _
theorem U5.getLoop(l:Nat):U5<|getLoop l:=by
 unfold Rn.getLoop
 repeat' (first
  |exact U5.pure _|exact U5.fail|exact U5.lift _|exact U5.fL _|exact U5.a9 _|exact U5.ba _ _|exact U5.cZ _
  |refine U5.aG (fun _ _=>?_)|refine U5.aB (fun _=>?_)|refine U5.bind ?_ (fun _=>?_)
  |split)
theorem U5.lU(l:Nat):U5<|lU l:=by
 unfold Rn.lU
 repeat' (first
  |exact U5.pure _|exact U5.fail|exact U5.lift _|exact U5.fL _|exact U5.a9 _|exact U5.ba _ _|exact U5.cZ _|exact U5.getLoop _
  |refine U5.aG (fun _ _=>?_)|refine U5.aB (fun _=>?_)|refine U5.bind ?_ (fun _=>?_)
  |split)
theorem U5.Rf(P:Program){U7:aJ}(bh:∀t a,U5<|U7 t a)(it:Item)(fn:FuncId)(t:Tr AV)(nt:Nat)(d:List Nat)(r:Option Nat)(k:List Item):U5<|(AP P it).val U7 fn t nt d r k:=by
 cases it<;>simp only[AP]<;>(try simp only[lE.val])
 case code c=>
  unfold JS;split<;>simp only<;>(first|(unfold xV;exact U5.pure _)|(unfold vj;exact U5.pure _)|(unfold Kn;exact U5.pure _)|(unfold D3;exact U5.fail)|(unfold JR;exact U5.aG fun _ _=>U5.aG fun _ _=>U5.pure _)|(unfold AN;split<;>exact U5.pure _)|(unfold AO;split<;>exact U5.pure _)|(unfold II;exact U5.bind (U5.fY P bh _ _ _ _) fun _=>U5.pure _)|(unfold H3;exact U5.bind (U5.oS P bh _ _ _) fun _=>U5.pure _)|skip);unfold AA
  repeat' (first
   |exact U5.pure _|exact U5.fail|exact U5.lift _|exact U5.fL _|exact U5.a9 _|exact U5.ba _ _|exact U5.cZ _
   |exact U5.jt bh _ _|exact bh _ _|exact U5.getLoop _|exact U5.lU _
   |refine U5.aG (fun _ _=>?_)|refine U5.aB (fun _=>?_)|refine U5.bind ?_ (fun _=>?_)
   |split)
 case beginRound=>
  unfold AB
  repeat' (first
   |exact U5.pure _|exact U5.fail|exact U5.lift _|exact U5.fL _|exact U5.a9 _|exact U5.ba _ _|exact U5.cZ _|exact U5.getLoop _
   |refine U5.aG (fun _ _=>?_)|refine U5.aB (fun _=>?_)|refine U5.bind ?_ (fun _=>?_)
   |split)
 all_goals (first|exact U5.pure _|exact U5.fail)
theorem U5.gk(P:Program){U7:aJ}(bh:∀t a,U5<|U7 t a)(fr:AF):U5<|gk P U7 fr:=by
 obtain⟨fn,t,nt,todo,d,r⟩:=fr;cases todo with
 |nil=>exact U5.pure _
 |cons it k=>exact U5.Rf P bh it fn t nt d r k
theorem U5.ju(P:Program){U7:aJ}(bh:∀t a,U5<|U7 t a):∀(n:Nat) (fr:AF),U5 (ju P U7 n fr)
 |0,fr=>U5.gk P bh fr
 |n+1,fr=>U5.bind (U5.ju P bh n fr) (fun x=>by
  cases x with
  |go fr=>exact U5.ju P bh n fr
  |leave fr j=>exact U5.pure _)
theorem U5.jR(P:Program){U7:aJ}(bh:∀t a,U5<|U7 t a):∀(n k:Nat) (fr:AF),U5 (jR P U7 n k fr)
 |0,_,_=>U5.fail
 |n+1,k,fr=>U5.bind (U5.ju P bh k fr) (fun x=>by
  cases x with
  |go fr=>exact U5.jR P bh n (k+1) fr
  |leave fr j=>exact U5.pure _)
theorem U5.rT(P:Program)(t:Tr AV)(r:ResultVar):U5<|rT P t r:=by
 unfold Rn.rT
 repeat' (first
  |exact U5.pure _|exact U5.fail|exact U5.lift _|exact U5.fL _|exact U5.a9 _|exact U5.ba _ _|exact U5.cZ _|exact U5.loadVar _ _ _ _
  |refine U5.aG (fun _ _=>?_)|refine U5.aB (fun _=>?_)|refine U5.bind ?_ (fun _=>?_)
  |split)
theorem U5.kW(P:Program)(t:Tr AV):∀l:List ResultVar,U5 (kW P t l)
 |[]=>U5.pure _
 |r::l=>U5.bind (U5.rT P t r) fun _=>U5.bind (U5.kW P t l) fun _=>U5.pure _
theorem U5.jj:∀l:List Nat,U5 (jj l)
 |[]=>U5.pure _
 |d::l=>U5.bind (U5.a9 d) (fun o=>by
  split
  ·exact U5.bind (U5.ba _ _) (fun _=>U5.jj l)
  ·exact U5.fail)
theorem U5.finish(P:Program)(rs:List ResultVar)(fr:AF)(j:Option Code):U5<|finish P rs fr j:=by
 unfold Rn.finish
 repeat' (first
  |exact U5.pure _|exact U5.fail|exact U5.lift _|exact U5.fL _|exact U5.a9 _|exact U5.ba _ _|exact U5.cZ _|exact U5.jj _|exact U5.kW _ _ _
  |refine U5.aG (fun _ _=>?_)|refine U5.aB (fun _=>?_)|refine U5.bind ?_ (fun _=>?_)
  |split)
theorem U5.vp(P:Program)(f n:Nat)(rs:List ResultVar)(body:Code){U7:aJ}(bh:∀t a,U5<|U7 t a)(args:List AV):U5<|vp P f n rs body U7 args:=
 U5.aB (fun _=>U5.bind (U5.jR P bh _ _ _) (fun x=>by
  cases x with
  |go fr=>exact U5.fail
  |leave fr j=>exact U5.finish P rs fr j))
theorem U5.qe(l:List AV):U5<|qe l:=by
 unfold Rn.qe
 repeat' (first
  |exact U5.pure _|exact U5.fail|exact U5.lift _|exact U5.fL _|exact U5.a9 _|exact U5.ba _ _|exact U5.cZ _
  |refine U5.aG (fun _ _=>?_)|refine U5.aB (fun _=>?_)|refine U5.bind ?_ (fun _=>?_)
  |split)
theorem U5.oT(l:List AV):U5<|oT l:=by
 unfold Rn.oT
 repeat' (first
  |exact U5.pure _|exact U5.fail|exact U5.lift _|exact U5.fL _|exact U5.a9 _|exact U5.ba _ _|exact U5.cZ _|exact U5.firstCells _ _ _
  |refine U5.aG (fun _ _=>?_)|refine U5.aB (fun _=>?_)|refine U5.bind ?_ (fun _=>?_)
  |split)
theorem U5.endRound(l:Nat)(j:Option Code):U5<|endRound l j:=by
 unfold Rn.endRound
 repeat' (first
  |exact U5.pure _|exact U5.fail|exact U5.lift _|exact U5.fL _|exact U5.a9 _|exact U5.ba _ _|exact U5.cZ _|exact U5.getLoop _
  |refine U5.aG (fun _ _=>?_)|refine U5.aB (fun _=>?_)|refine U5.bind ?_ (fun _=>?_)
  |split)
theorem U5.rV(P:Program){U7:aJ}(bh:∀t a,U5<|U7 t a)(l:Nat)(args:List AV):U5<|rV P U7 l args:=by
 unfold Rn.rV;refine U5.bind (U5.getLoop _) fun o=>?_;split
 ·exact U5.aB fun _=>U5.bind (U5.jR P bh _ _ _) (fun x=>by
   cases x with
   |go fr=>exact U5.fail
   |leave fr j=>exact U5.endRound l j)
 ·exact U5.fail
end Go.Rn
namespace Go.Rn
def AE{β:Type}(A:Nat->Prop)(m0:Nat)(s t:AS)(x y:β×AS):Prop:=x.1=y.1/\∃dr dw,iw s x.2 dr dw/\np A m0 x.2 t y.2 dr dw
def gi{β:Type}(A:Nat->Prop)(m0:Nat)(s t:AS):List (β×AS)->List (β×AS)->Prop
 |[],l=>l=[]
 |x::xs,l=>∃y ys,l=y::ys/\AE A m0 s t x y/\gi A m0 s t xs ys
theorem gi.append{β:Type}{A:Nat->Prop}{m0:Nat}{s t:AS}:∀{a b c d:List<|β×AS},gi A m0 s t a b->gi A m0 s t c d->gi A m0 s t (a++c) (b++d)
 |[],_,_,_,h,k=>by simp only[gi] at h;subst h;simpa using k
 |x::xs,_,_,_,h,k=>by obtain⟨y,ys,rfl,f,r⟩:=h;exact⟨y,_,rfl,f,gi.append r k⟩
def xE{β:Type}(A:Nat->Prop)(m0:Nat)(s:AS)(l:List<|β×AS):Prop:=∀x∈l,∀dr dw,iw s x.2 dr dw->∀k∈dr,k<m0->A k
def n7{β:Type}(m:AS->Option (List<|β×AS)):Prop:=∀s outs,aS s->m s=some outs->outs≠[]/\(∀x∈outs,∃dr dw,iw s x.2 dr dw)/\∀A m0 t,xD A m0 s t->xE A m0 s outs->∃kv,m t=some kv/\gi A m0 s t outs kv
theorem iw.trans{s s1 s2:AS}{dr dw lF jc:List Nat}(d:iw s s1 dr dw)(d':iw s1 s2 lF jc):iw s s2 (lF++dr)<|jc++dw:=by
 refine⟨by rw[d'.rd,d.rd,List.append_assoc],by rw[d'.wr,d.wr,List.append_assoc],Nat.le_trans d.nx d'.nx,d'.top,d'.mark.trans d.mark,?_,?_,?_⟩
 ·intro k hk hn;have nB:k ∉ jc:=fun e=>hn<|List.mem_append.2<|.inl e;have jZ:k ∉ dw:=fun e=>hn<|List.mem_append.2<|.inr e;exact(d'.same k (by rw[d.mark];exact hk) nB).trans<|d.same k hk jZ
 ·intro k hk;rcases List.mem_append.1 hk with e|e
  ·exact List.mem_append.2<|.inl<|d'.sub k e
  ·exact List.mem_append.2<|.inr<|d.sub k e
 ·intro k hk ht;exact(d'.dB k hk ht).trans<|d.dB k (Nat.le_trans d'.nx hk) ht
theorem np.trans{A:Nat->Prop}{m0:Nat}{s1 s2 t t1 t2:AS}{dr dw lF jc:List Nat}(hx:s1.nx<=s2.nx)(al:np A m0 s1 t t1 dr dw)(lH:np A m0 s2 t1 t2 lF jc):np A m0 s2 t t2 (lF++dr)<|jc++dw:=by
 refine⟨lH.ku,by rw[lH.rd,al.rd,List.append_assoc],by rw[lH.wr,al.wr,List.append_assoc],?_,?_⟩
 ·intro k hk hn;have nB:k ∉ jc:=fun e=>hn<|List.mem_append.2<|.inl e;have jZ:k ∉ dw:=fun e=>hn<|List.mem_append.2<|.inr e;exact(lH.same k hk nB).trans<|al.same k hk jZ
 ·intro k hk ht;exact(lH.dB k hk ht).trans<|al.dB k (Nat.le_trans hx hk) ht
theorem AE.Ao{β:Type}{A:Nat->Prop}{m0:Nat}{s s1 t t1:AS}{dr dw:List Nat}{x y:β×AS}(d:iw s s1 dr dw)(al:np A m0 s1 t t1 dr dw)(h:AE A m0 s1 t1 x y):AE A m0 s t x y:=by obtain⟨e,lF,jc,d',lH⟩:=h;exact⟨e,_,_,d.trans d',al.trans d'.nx lH⟩
theorem gi.Ao{β:Type}{A:Nat->Prop}{m0:Nat}{s s1 t t1:AS}{dr dw:List Nat}(d:iw s s1 dr dw)(al:np A m0 s1 t t1 dr dw):
 ∀{a b:List<|β×AS},gi A m0 s1 t1 a b->gi A m0 s t a b
 |[],_,h=>h
 |x::xs,_,h=>by obtain⟨y,ys,rfl,f,r⟩:=h;exact⟨y,ys,rfl,f.Ao d al,gi.Ao d al r⟩
def kr{α β:Type}(m:M α)(F:α->AS->Option (List<|β×AS)):AS->Option (List<|β×AS):=fun s=>
 match m s with
 | .ok a s1=>F a s1
 | .bad=>none
theorem zR{α β:Type}{m:M α}{F:α->AS->Option (List<|β×AS)}(hm:U5 m)(hF:∀a,n7<|F a):
 n7 (kr m F):=by
 intro s outs fi h;unfold kr at h ⊢;cases e:m s with
 |bad=>simp only[e] at h;cases h
 |ok a s1=>
  simp only[e] at h;obtain⟨dr,dw,d,x⟩:=hm s a s1 fi e;obtain⟨ne,g1,g2⟩:=hF a s1 outs (d.bo fi) h;refine⟨ne,fun y hy=>?_,fun A m0 t ag hA=>?_⟩
  ·obtain⟨lF,jc,d'⟩:=g1 y hy;exact⟨_,_,d.trans d'⟩
  ·cases outs with
   |nil=>exact absurd rfl ne
   |cons y ys=>obtain⟨ox,qV,d1⟩:=g1 y List.mem_cons_self;have Tf:∀k∈dr,k<m0->A k:=fun k hk aW=>hA y List.mem_cons_self _ _ (d.trans d1) k (List.mem_append.2<|.inr hk) aW;obtain⟨t1,e1,al⟩:=x A m0 t ag Tf;obtain⟨kv,e2,fl⟩:=g2 A m0 t1 al.ku fun z hz lF jc d' k hk aW=>hA z hz _ _ (d.trans d') k (List.mem_append.2<|.inl hk) aW;exact⟨kv,by simp only[e1];exact e2,fl.Ao d al⟩
theorem OG{β:Type}(b:β):n7 fun s=>some [(b,s)]:=by
 intro s outs fi h;injection h with h;subst h
 have dd:iw s s [] []:=⟨rfl,rfl,Nat.le_refl _,fi.nx,rfl,fun _ _ _=>rfl,fun _ h=>h,fun _ _ _=>rfl⟩;refine⟨by simp,fun x hx=>?_,fun A m0 t ag _=>⟨[(b,t)],rfl,(b,t),[],rfl,⟨rfl,[],[],dd,ag,rfl,rfl,fun _ _ _=>rfl,fun _ _ _=>rfl⟩,rfl⟩⟩;simp only[List.mem_singleton] at hx;subst hx;exact⟨[],[],dd⟩
theorem Hn{β:Type}:n7 fun _=>(none:Option<|List<|β×AS):=by intro s outs _ h;cases h
theorem Gh{α β:Type}{F:α->AS->Option (List<|β×AS)}:∀(l:List α),l≠[]->(∀a∈l,n7<|F a)->n7 (fun s=>Rn.collect (fun a=>F a s) l)
 |[],h,_=>absurd rfl h
 |x::l,_,hF=>by
  intro s outs fi h;simp only[Rn.collect] at h;cases e:F x s with
  |none=>rw[e] at h;cases h
  |some a=>
   rw[e] at h;obtain⟨ne,g1,g2⟩:=hF x List.mem_cons_self s a fi e;cases l with
   |nil=>
    simp only[Rn.collect,List.append_nil] at h;injection h with h;subst h
    refine⟨ne,g1,fun A m0 t ag hA=>?_⟩;obtain⟨o',e',fl⟩:=g2 A m0 t ag hA;exact⟨o',by simp only[Rn.collect,e',List.append_nil],fl⟩
   |cons z l=>
    cases e2:Rn.collect (fun a=>F a s) (z::l) with
    |none=>rw[e2] at h;cases h
    |some b=>
     rw[e2] at h;injection h with h;subst h
     obtain⟨ne',pK,E2⟩:=Gh (F:=F) (z::l) (by simp) (fun a ha=>hF a<|List.mem_cons_of_mem _ ha) s b fi e2;refine⟨by simp[ne],fun y hy=>?_,fun A m0 t ag hA=>?_⟩
     ·rcases List.mem_append.1 hy with hy|hy
      ·exact g1 y hy
      ·exact pK y hy
     ·obtain⟨o1,E3,f1⟩:=g2 A m0 t ag fun y hy=>hA y<|List.mem_append.2<|.inl hy;obtain⟨o2,j0,f2⟩:=E2 A m0 t ag fun y hy=>hA y<|List.mem_append.2<|.inr hy;refine⟨o1++o2,?_,f1.append f2⟩;have Sa:Rn.collect (fun a=>F a t) (z::l)=some o2:=j0;show Rn.collect (fun a=>F a t) (x::z::l)=_;rw[Rn.collect,E3];simp only[Sa]
theorem OH{α:Type}(x:α)(l:List α):pa (x::l)≠[]:=by simp[pa]
theorem U5.nX(fr:AF)(it:Operand):U5<|nX fr it:=by
 unfold Rn.nX
 repeat' (first
  |exact U5.pure _|exact U5.fail|exact U5.lift _|exact U5.a9 _
  |refine U5.bind ?_ (fun _=>?_)
  |split)
theorem U5.m9(P:Program){U7:aJ}(bh:∀t a,U5<|U7 t a)(fr:AF)(n:Nat)(ob:U)(o:Oper)(ops:Array Oper)(rest:List Oper)(k:List Item)(v:AV):
 U5 (m9 P U7 fr n ob o ops rest k v):=by
 unfold Rn.m9
 repeat' (first
  |exact U5.pure _|exact U5.lift _|exact U5.ba _ _|exact U5.fY P bh _ _ _ _
  |refine U5.bind ?_ fun _=>?_)
theorem U5.mP(P:Program){U7:aJ}(bh:∀t a,U5<|U7 t a)(fr:AF)(n m:Nat)(es:List<|AV×AV)(ex:Bool)(o:Oper)(ops:Array Oper)(rest:List Oper)(k:List Item):
 U5 (mP P U7 fr n m es ex o ops rest k):=by
 unfold Rn.mP
 repeat' (first
  |exact U5.pure _|exact U5.lift _|exact U5.ba _ _|exact U5.fY P bh _ _ _ _
  |refine U5.bind ?_ fun _=>?_)
noncomputable section
def Sb(P:Program)(U7:aJ)(f:Nat)(x:bN):AS->Option (List<|(AF×Option Code)×AS):=
 match x with
 | .go fr=>jl P U7 f fr
 | .leave fr j=>fun s=>some [((fr,j),s)]
def D5(P:Program)(U7:aJ)(f:Nat)(fr:AF)(n m:Nat)(es:List<|AV×AV)(exact:Bool)(o:Oper)(ops:Array Oper)(rest:List Oper)(k:List Item)(x:(AV×AV)×List (AV×AV)):AS->Option (List<|(AF×Option Code)×AS):=kr (m9 P U7 fr n (.iter m es exact x.2<|some x.1) o ops rest k<|.tuple [.bool true,x.1.1,x.1.2])<|jl P U7 f
def xF(P:Program)(U7:aJ)(f:Nat)(fr:AF)(o:Oper)(ops:Array Oper)(rest:List Oper)(k:List Item)(x:Nat×U):AS->Option (List<|(AF×Option Code)×AS):=
 match x with
 |(n,.iter m es exact left _)=>match left with
  |[]=>kr (mP P U7 fr n m es exact o ops rest k)<|jl P U7 f
  |y::ys=>fun s=>collect (fun x=>D5 P U7 f fr n m es exact o ops rest k x s)<|pa<|y::ys
 |_=>fun _=>none
end
theorem Gv{P:Program}{U7:aJ}{f:Nat}{fr:AF}(e:rU fr=none):
 jl P U7 (f+1) fr=kr (gk P U7 fr) (Sb P U7 f):=by
 funext s;simp only[jl,e,kr];cases gk P U7 fr s with
 |bad=>rfl
 |ok x s1=>cases x<;>rfl
theorem Gw{P:Program}{U7:aJ}{f:Nat}{fr:AF}{it:Operand}{o:Oper}{ops:Array Oper}{rest:List Oper}{k:List Item}(e:rU fr=some (it,o,ops,rest,k)):
 jl P U7 (f+1) fr=kr (nX fr it) (xF P U7 f fr o ops rest k):=by
 funext s;simp only[jl,e,kr];cases nX fr it s with
 |bad=>rfl
 |ok x s1=>
  obtain⟨n,ob⟩:=x;cases ob with
  |iter m es ex left cur=>
   cases left with
   |nil=>simp only[xF,kr];cases mP P U7 fr n m es ex o ops rest k s1<;>rfl
   |cons y ys=>simp only[xF];congr 1;funext x;simp only[D5,kr];cases m9 P U7 fr n (.iter m es ex x.2<|some x.1) o ops rest k (.tuple [.bool true,x.1.1,x.1.2]) s1<;>rfl
  |_=>rfl
theorem nP(P:Program){U7:aJ}(bh:∀t a,U5<|U7 t a):∀(f:Nat) (fr:AF),n7 (jl P U7 f fr)
 |0,fr=>Hn
 |f+1,fr=>by
  cases e:rU fr with
  |none=>
   rw[Gv e];refine zR (U5.gk P bh fr) fun x=>?_;cases x with
   |go fr=>exact nP P bh f fr
   |leave fr j=>exact OG (fr,j)
  |some q=>
   obtain⟨it,o,ops,rest,k⟩:=q;rw[Gw e];refine zR (U5.nX fr it) fun x=>?_;obtain⟨n,ob⟩:=x;cases ob with
   |iter m es ex left cur=>
    cases left with
    |nil=>exact zR (U5.mP P bh _ _ _ _ _ _ _ _ _) fun fr=>nP P bh f fr
    |cons y ys=>exact Gh _ (OH y ys) fun x _=>zR (U5.m9 P bh _ _ _ _ _ _ _ _) fun fr=>nP P bh f fr
   |_=>exact Hn
theorem F8(P:Program)(rs:List ResultVar){m:AS->Option (List<|(AF×Option Code)×AS)}(hm:n7 m):
 n7 (fun s=>match m s with|some l=>lR P rs l|none=>none):=by
 have key:∀(s:AS) (l:List<|(AF×Option Code)×AS) (outs:List<|AV×AS),aS s->(∀x∈l,∃dr dw,iw s x.2 dr dw)->lR P rs l=some outs->
  outs.length=l.length/\(∀x∈outs,∃dr dw,iw s x.2 dr dw)/\
  (∀A m0,xE A m0 s outs->xE A m0 s l)/\
  ∀A m0 t l',xD A m0 s t->gi A m0 s t l l'->xE A m0 s outs->∃kv,lR P rs l'=some kv/\gi A m0 s t outs kv:=by
  intro s l;induction l with
  |nil=>
   intro outs fi _ h;simp only[lR] at h;injection h with h;subst h
   refine⟨rfl,fun x hx=>(by cases hx),fun A m0 _ x hx=>(by cases hx),fun A m0 t l' _ fl _=>?_⟩;simp only[gi] at fl;subst fl;exact⟨[],rfl,rfl⟩
  |cons x l ih=>
   obtain⟨⟨fr,j⟩,sx⟩:=x;intro outs fi hd h;simp only[lR] at h;obtain⟨dr,dw,d⟩:=hd _ List.mem_cons_self;cases e:finish P rs fr j sx with
   |bad=>rw[e] at h;cases h
   |ok v s1=>
    rw[e] at h;cases e2:lR P rs l with
    |none=>simp only[e2] at h;cases h
    |some r=>
     simp only[e2] at h;injection h with h;subst h
     obtain⟨hl,i1,i2,i3⟩:=ih r fi (fun x hx=>hd x<|List.mem_cons_of_mem _ hx) e2;obtain⟨lF,jc,d',x'⟩:=U5.finish P rs fr j sx v s1 (d.bo fi) e;refine⟨by simp[hl],fun y hy=>?_,fun A m0 hN y hy=>?_,fun A m0 t l' ag fl hN=>?_⟩
     ·rcases List.mem_cons.1 hy with rfl|hy
      ·exact⟨_,_,d.trans d'⟩
      ·exact i1 y hy
     ·rcases List.mem_cons.1 hy with rfl|hy
      ·intro ox qV d1 k hk aW;exact hN (v,s1) List.mem_cons_self _ _ (d1.trans d') k (List.mem_append.2<|.inr hk) aW
      ·exact i2 A m0 (fun z hz=>hN z<|List.mem_cons_of_mem _ hz) y hy
     ·obtain⟨y,ys,rfl,⟨ey,ox,qV,d1,tI⟩,lI⟩:=fl;obtain⟨⟨gr,j2⟩,ty⟩:=y;simp only at ey;cases ey;obtain⟨kv,e3,Tg⟩:=i3 A m0 t ys ag lI fun z hz=>hN z<|List.mem_cons_of_mem _ hz;obtain⟨t1,e4,Th⟩:=x' A m0 ty tI.ku fun k hk aW=>hN (v,s1) List.mem_cons_self _ _ (d1.trans d') k (List.mem_append.2<|.inl hk) aW;refine⟨(v,t1)::kv,?_,(v,t1),kv,rfl,⟨rfl,_,_,d1.trans d',tI.trans d'.nx Th⟩,Tg⟩;simp only[lR];have E4:finish P rs fr j ty= .ok v t1:=e4;rw[E4,e3]
 intro s outs fi h;cases e:m s with
 |none=>simp only[e] at h;cases h
 |some l=>simp only[e] at h;obtain⟨ne,g1,g2⟩:=hm s l fi e;obtain⟨hl,i1,i2,i3⟩:=key s l outs fi g1 h;refine⟨fun h0=>ne (by rw[h0] at hl;exact List.length_eq_zero_iff.1 hl.symm),i1,fun A m0 t ag hN=>?_⟩;obtain⟨l',e',fl⟩:=g2 A m0 t ag<|i2 A m0 hN;obtain⟨kv,e2,Ti⟩:=i3 A m0 t l' ag fl hN;exact⟨kv,by simp only[e'];exact e2,Ti⟩
end Go.Rn
namespace Go.Rn
theorem GX:∀(l:List Nat) (s:AS) (u:Unit) (s1:AS),km l s= .ok u s1->∃dr,s1.rd=dr++s.rd/\s1.mark=s.mark/\∀k∈l,k<s.mark->k∈dr
 |[],s,u,s1,h=>by have h':M.pure () s= .ok u s1:=h;obtain⟨_,rfl⟩:=aQ h';exact⟨[],rfl,rfl,fun k hk=>by cases hk⟩
 |n::l,s,u,s1,h=>by
  have h':(a9 n).bind (fun _=>km l) s= .ok u s1:=h;obtain⟨o,s2,h1,h2⟩:=M.aL h';obtain⟨_,_,rfl⟩:=Di h1;obtain⟨dr,e1,e2,e3⟩:=GX l _ _ _ h2;by_cases q:n<s.mark
  ·rw[if_pos q] at e1 e2 e3;refine⟨dr++[n],by rw[e1];simp,e2,fun k hk aW=>?_⟩;rcases List.mem_cons.1 hk with rfl|hk
   ·simp
   ·exact List.mem_append.2<|.inl<|e3 k hk aW
  ·rw[if_neg q] at e1 e2 e3;refine⟨dr,e1,e2,fun k hk aW=>?_⟩;rcases List.mem_cons.1 hk with rfl|hk
   ·exact absurd aW q
   ·exact e3 k hk aW
theorem U5.km:∀l:List Nat,U5 (km l)
 |[]=>U5.pure _
 |n::l=>U5.bind (U5.a9 n) fun _=>U5.km l
theorem U5.ma:∀l:List<|Nat×List (AV×AV),U5 (ma l)
 |[]=>U5.pure _
 |(_,_)::l=>U5.bind (U5.lg _) fun _=>U5.bind (U5.ba _ _) fun _=>U5.ma l
theorem U5.jS:∀k:Nat,U5 (jS k)
 |0=>U5.pure _
 |k+1=>U5.bind (U5.cZ _) fun _=>U5.bind (U5.ba _ _) fun _=>U5.jS k
theorem U5.po(lo:Nat)(r:pJ):U5<|po lo r:=by
 cases r with
 |none=>exact U5.pure _
 |nil=>exact U5.pure _
 |row n c len e=>exact U5.bind (U5.jS _) fun _=>U5.bind (U5.newRow c) fun _=>U5.aB fun _=>U5.pure _
theorem U5.xu(p:xW):U5<|xu p:=U5.bind (U5.km _) fun _=>U5.bind (U5.ma _) fun _=>U5.bind (U5.po _ _) fun _=>U5.bind (U5.jS _) fun _=>U5.pure _
theorem uD{n:Nat}:∀{l:List Nat},oi n l=true↔n∈l
 |[]=>by simp[oi]
 |x::l=>by
  simp only[oi];cases h:Nat.beq x n with
  |true=>rw[beq_eq] at h;subst h;simp
  |false=>
   have:¬x=n:=by rw[←beq_eq,h];simp
   simp only[uD (l:=l),List.mem_cons];constructor
   ·exact .inr
   ·rintro (e|e)
    ·exact absurd e.symm this
    ·exact e
theorem MD{k n:Nat}{l:List Nat}:k∈Dh n l↔k=n\/k∈l:=by
 unfold Dh;cases h:oi n l with
 |true=>
  have:=uD.1 h;constructor
  ·exact .inr
  ·rintro (rfl|e)
   ·exact this
   ·exact e
 |false=>exact List.mem_cons
theorem Gx{k:Nat}:∀{l:List Nat},k∈lb l↔k∈l
 |[]=>by simp[lb]
 |x::l=>by rw[lb,MD,Gx (l:=l),List.mem_cons]
def D6(ns:List Nat)(s t:AS):Prop:=∀n∈ns,s.h.get n=t.h.get n
theorem IK{s t:AS}{n:Nat}(h:s.h.get n=t.h.get n):pj s n=pj t n:=by unfold pj;rw[h]
theorem Gi{s t:AS}:∀{ns:List Nat},D6 ns s t->entriesOf s ns=entriesOf t ns
 |[],_=>rfl
 |n::l,h=>by simp only[entriesOf,IK<|h n List.mem_cons_self,Gi (ns:=l) fun m hm=>h m<|List.mem_cons_of_mem _ hm]
theorem BY{s:AS}:∀{ns:List Nat} {es:List<|Nat×List (AV×AV)},entriesOf s ns=some es->es.map (·.1)=ns
 |[],es,h=>by simp only[entriesOf] at h;injection h with h;subst h;rfl
 |n::l,es,h=>by
  simp only[entriesOf] at h;cases e:pj s n with
  |none=>rw[e] at h;cases h
  |some x=>
   simp only[e] at h;cases e2:entriesOf s l with
   |none=>simp only[e2] at h;cases h
   |some r=>
    simp only[e2] at h;injection h with h;subst h
    simp[BY e2]
theorem H4{s t:AS}:∀{es:List<|Nat×List (AV×AV)},D6 (es.map (·.1)) s t->qD s es=qD t es
 |[],_=>rfl
 |(n,x)::l,h=>by simp only[qD,IK (h n<|by simp),H4 (es:=l) fun m hm=>h m (by simp only[List.map_cons,List.mem_cons];exact .inr hm)]
theorem OI{lo:Nat}{s t:AS}(hn:s.nx=t.nx)(h:∀k,lo<=k->k<s.nx->s.h.get k=t.h.get k)(v:AV):jv lo s v=jv lo t v:=by
 cases v with
 |slice a len cap=>
  cases a with
  |none=>
   cases cap with
   |known c=>cases len<;>cases c<;>rfl
   |aU lo e=>cases len<;>rfl
   |lost=>cases len<;>rfl
  |some a=>
   obtain⟨n,o⟩:=a;cases o with
   |succ o=>cases cap<;>rfl
   |zero=>
    cases cap with
    |known c=>rfl
    |lost=>rfl
    |aU c e=>
     by_cases q:lo<=n/\n<s.nx
     ·simp only[jv,h n q.1 q.2,hn]
     ·have q1:(Nat.ble lo n&&Nat.blt n s.nx)=false:=by
       cases hb:(Nat.ble lo n&&Nat.blt n s.nx) with
       |false=>rfl
       |true=>have:=Bool.and_eq_true_iff.1 hb;rw[Nat.ble_eq,blt_eq] at this;exact absurd this q
      have JT:∀u:AS,(Nat.ble lo n&&Nat.blt n u.nx)=false->jv lo u (.slice (some (n,0)) len<|.aU c e)=none:=by
       intro u hu;simp only[jv,hu,Bool.false_and];split
       ·split<;>rfl
       ·rfl
      rw[JT s q1,JT t (by rw[←hn];exact q1)]
 |tuple vs=>cases vs<;>rfl
 |_=>rfl
theorem Ho{x:AV×AS}{k:Nat}:∀{l:List<|AV×AS},x∈l->k∈x.2.rd->k∈sX l
 |[],h,_=>by cases h
 |(_,_)::b,h,hk=>by
  rcases List.mem_cons.1 h with rfl|hx
  ·exact List.mem_append.2<|.inl hk
  ·exact List.mem_append.2<|.inr<|Ho hx hk
theorem U5.qE(P:Program){U7:aJ}(bh:∀t a,U5<|U7 t a)(f n:Nat)(rs:List ResultVar)(body:Code)(args:List AV):U5<|qE P U7 f n rs body args:=by
 intro s v s2 fi h;unfold Rn.qE at h;cases e0:Nat.ble (max n args.length) top with
 |false=>simp only[e0] at h;cases h
 |true=>
  simp only[e0] at h;cases e1:w8 P U7 f n rs body args ⟨s.h,s.nx,s.nx,[],[]⟩ with
  |none=>simp only[e1] at h;cases h
  |some outs=>
   simp only[e1] at h;cases e2:o6 s.nx outs with
   |none=>simp only[e2] at h;cases h
   |some p=>
    simp only[e2] at h;obtain⟨dr,dw,d,x⟩:=U5.xu p s v s2 fi h;refine⟨dr,dw,d,fun A m0 t ag hA=>?_⟩;have Rh:∀k∈p.note,k<m0->A k:=by
     intro k hk aW;refine hA k ?_ aW;obtain⟨u,s3,h1,h2⟩:=M.aL (show((Rn.km p.note).bind fun _=>(Rn.ma p.es).bind fun _=>(Rn.po p.lo p.ret).bind fun v=>(Rn.jS p.skip).bind fun _=>M.pure<|w7 p.rest v) s= .ok v s2 from h);obtain⟨ox,q1,q2,q3⟩:=GX _ _ _ _ h1;obtain⟨lF,jc,d',_⟩:=U5.km p.note s u s3 fi h1;obtain⟨vZ,yF,d2,_⟩:=U5.bind (U5.ma p.es) (fun _=>U5.bind (U5.po p.lo p.ret) fun v=>U5.bind (U5.jS p.skip) fun _=>U5.pure<|w7 p.rest v) s3 v s2 (d'.bo fi) h2;have:dr=vZ++ox:=by have a:=d.rd;rw[d2.rd,q1, ←List.append_assoc] at a;exact(List.append_cancel_right a).symm
     rw[this];exact List.mem_append.2<|.inr<|q3 k hk<|Nat.lt_of_lt_of_le aW ag.low
    have hL:n7<|w8 P U7 f n rs body args:=F8 P rs<|nP P bh _ _;obtain⟨ne,g1,g2⟩:=hL ⟨s.h,s.nx,s.nx,[],[]⟩ outs ⟨Nat.le_refl _,fi.nx⟩ e1;cases outs with
    |nil=>exact absurd rfl ne
    |cons y l=>
     obtain⟨v1,s1⟩:=y;have j0:=e2;simp only[o6] at j0;cases e3:entriesOf s1 (lb<|below s.nx s1.wr) with
     |none=>simp only[e3] at j0;cases j0
     |some es=>
      cases e4:jv s.nx s1 (l5 v1) with
      |none=>simp only[e3,e4] at j0;cases j0
      |some r=>
       simp only[e3,e4] at j0;cases e5:fits s.nx (lb<|below s.nx s1.wr) es r (qv v1) ((v1,s1)::l)&&ux es with
       |false=>simp only[e5] at j0;cases j0
       |true=>
        simp only[e5] at j0;injection j0 with j0
        have Tj:∀x∈((v1,s1)::l),∀k∈x.2.rd,k∈sX ((v1,s1)::l):=fun x hx k hk=>Ho hx hk;have hN:xE A m0 ⟨s.h,s.nx,s.nx,[],[]⟩<|(v1,s1)::l:=by intro x hx lF jc d' k hk aW;refine Rh k ?_ aW;rw[←j0];refine lS.2 ⟨Tj x hx k (by rw[d'.rd];simpa using hk),Nat.lt_of_lt_of_le aW<|Nat.le_trans ag.low fi.mark⟩
        obtain⟨kv,e6,fl⟩:=g2 A m0 ⟨t.h,t.nx,t.nx,[],[]⟩ ⟨ag.nx,ag.nx,Nat.le_trans ag.low fi.mark,ag.is⟩ hN;have hp:o6 t.nx kv=some p:=by
         rw[←ag.nx, ←j0];obtain⟨y',l',rfl,⟨ey,ox,qV,d1,tI⟩,Tk⟩:=fl;obtain⟨v2,t1⟩:=y';simp only at ey;subst ey;have Tl:t1.wr=s1.wr:=by have a:=tI.wr;have b:=d1.wr;simp only[List.append_nil] at a b;rw[a,b]
         have gT:∀m∈lb (below s.nx s1.wr),(A m\/m0<=m)/\m<s.nx:=by
          intro m hm;obtain⟨a,b⟩:=lS.1<|Gx.1 hm;refine⟨?_,b⟩;by_cases q:m<m0
          ·refine .inl<|hN _ List.mem_cons_self ox qV d1 m (d1.sub m ?_) q;have:=d1.wr;simp only[List.append_nil] at this;rw[←this];exact a
          ·exact .inr (by omega)
         have one:∀(x y:AS) (dr dw:List Nat),iw ⟨s.h,s.nx,s.nx,[],[]⟩ x dr dw->np A m0 x ⟨t.h,t.nx,t.nx,[],[]⟩ y dr dw->D6 (lb<|below s.nx s1.wr) x y:=by intro x y dr dw d' al m hm;obtain⟨a,b⟩:=gT m hm;exact al.ku.is m (Nat.lt_of_lt_of_le b d'.nx) a
         have ret:∀(x y:AS) (dr dw:List Nat) (v:AV),iw ⟨s.h,s.nx,s.nx,[],[]⟩ x dr dw->np A m0 x ⟨t.h,t.nx,t.nx,[],[]⟩ y dr dw->jv s.nx x v=jv s.nx y v:=by intro x y dr dw v d' al;exact OI al.ku.nx (fun k hk aW=>al.ku.is k aW<|.inr<|Nat.le_trans (Nat.le_trans ag.low fi.mark) hk) v
         have By:entriesOf t1 (lb<|below s.nx s1.wr)=some es:=by rw[←Gi (one s1 t1 ox qV d1 tI)];exact e3
         have E4:jv s.nx t1 (l5 v1)=some r:=by rw[←ret s1 t1 ox qV (l5 v1) d1 tI];exact e4
         have D7:∀(a b:List<|AV×AS),gi A m0 ⟨s.h,s.nx,s.nx,[],[]⟩ ⟨t.h,t.nx,t.nx,[],[]⟩ a b->fits s.nx (lb<|below s.nx s1.wr) es r (qv v1) a=fits s.nx (lb<|below s.nx s1.wr) es r (qv v1) b:=by
          intro a;induction a with
          |nil=>intro b hb;simp only[gi] at hb;subst hb;rfl
          |cons x xs ih=>
           intro b hb;obtain⟨y,ys,rfl,⟨Bz,vZ,yF,d2,tJ⟩,r2⟩:=hb;obtain⟨x1,x2⟩:=x;obtain⟨y1,y2⟩:=y;simp only at Bz;subst Bz;have w2:y2.wr=x2.wr:=by have a:=tJ.wr;have b:=d2.wr;simp only[List.append_nil] at a b;rw[a,b]
           have n2:=BY e3;simp only[fits,w2,H4 (es:=es) (s:=x2) (t:=y2) (by rw[n2];exact one x2 y2 vZ yF d2 tJ),ret x2 y2 vZ yF (l5 x1) d2 tJ,ih ys r2]
         have Sc:∀(a b:List<|AV×AS),gi A m0 ⟨s.h,s.nx,s.nx,[],[]⟩ ⟨t.h,t.nx,t.nx,[],[]⟩ a b->sX a=sX b:=by
          intro a;induction a with
          |nil=>intro b hb;simp only[gi] at hb;subst hb;rfl
          |cons x xs ih=>
           intro b hb;obtain⟨y,ys,rfl,⟨Bz,vZ,yF,d2,tJ⟩,r2⟩:=hb;obtain⟨x1,x2⟩:=x;obtain⟨y1,y2⟩:=y;have w2:y2.rd=x2.rd:=by have a:=tJ.rd;have b:=d2.rd;simp only[List.append_nil] at a b;rw[a,b]
           simp only[sX,ih ys r2];rw[w2]
         have Sd:∀(a b:List<|AV×AS),gi A m0 ⟨s.h,s.nx,s.nx,[],[]⟩ ⟨t.h,t.nx,t.nx,[],[]⟩ a b->pk a=pk b:=by
          intro a;induction a with
          |nil=>intro b hb;simp only[gi] at hb;subst hb;rfl
          |cons x xs ih=>intro b hb;obtain⟨y,ys,rfl,⟨Bz,vZ,yF,d2,tJ⟩,r2⟩:=hb;obtain⟨x1,x2⟩:=x;obtain⟨y1,y2⟩:=y;have w2:x2.nx=y2.nx:=tJ.ku.nx;simp only[pk,ih ys r2,w2]
         have whole:gi A m0 ⟨s.h,s.nx,s.nx,[],[]⟩ ⟨t.h,t.nx,t.nx,[],[]⟩ ((v1,s1)::l)<|(v1,t1)::l':=⟨(v1,t1),l',rfl,⟨rfl,ox,qV,d1,tI⟩,Tk⟩;simp only[o6,Tl,By,E4];rw[←D7 _ _ whole,e5, ←Sc _ _ whole, ←Sd _ _ whole]
        obtain⟨t1,e7,al⟩:=x A m0 t ag hA;refine⟨t1,?_,al⟩;unfold Rn.qE;simp only[e0,e6,hp];exact e7
theorem wK(P:Program)(cL:FuncId->Nat):∀(n:Nat) (t:yC) (args:List AV),U5 (oj P cL n t args)
 |0,_,_=>U5.fail
 |n+1,.fn f,args=>by
  have bh:∀t a,U5<|oj P cL n t a:=fun t a=>wK P cL n t a;show U5<|(qU P cL f).val (oj P cL n) args;unfold qU;split
  ·exact U5.qe _
  ·exact U5.oT _
  ·split
   ·exact U5.fail
   ·split
    ·exact U5.fail
    ·split
     ·exact U5.fail
     ·split
      ·exact U5.qE P bh _ _ _ _ _
      ·exact U5.vp P _ _ _ _ bh _
 |n+1,.round l,args=>U5.rV P (fun t a=>wK P cL n t a) l args
 |_+1,.row _ _ _,_=>U5.fail
end Go.Rn
namespace Go.Rn
open Go.RowKit
def eg(ρ:aj)(n:Nat)(x:Nat×Nat):aj:=fun k=>if k=n then some x else ρ k
theorem lZ{ρ:aj}{n:Nat}{x:Nat×Nat}(h:ρ n=none):ρ.le<|eg ρ n x:=by
 intro k y e;unfold eg;by_cases q:k=n
 ·subst q;rw[h] at e;cases e
 ·rw[if_neg q];exact e
theorem fH(ρ:aj)(n:Nat)(x:Nat×Nat):eg ρ n x n=some x:=by simp[eg]
theorem gN(ρ:aj){n k:Nat}(x:Nat×Nat)(h:k≠n):eg ρ n x k=ρ k:=by simp[eg,h]
structure o7 (b:Nat) (w w':World):Prop where
 os:w'.os=w.os
 tape:w'.tape=w.tape
 output:w'.output=w.output
 size:w'.heap.size=w.heap.size
 block:∀k,k≠b->w'.heap[k]? =w.heap[k]?
structure bp (B:aH) (w w':World):Prop where
 os:w'.os=w.os
 tape:w'.tape=w.tape
 output:w'.output=w.output
 size:w.heap.size<=w'.heap.size
 block:∀k,k<w.heap.size->¬B.may k->w'.heap[k]? =w.heap[k]?
theorem bp.refl(B:aH)(w:World):bp B w w:=⟨rfl,rfl,rfl,Nat.le_refl _,fun _ _ _=>rfl⟩
theorem bp.trans{B:aH}{a b c:World}(h:bp B a b)(k:bp B b c):bp B a c:=⟨k.os.trans h.os,k.tape.trans h.tape,k.output.trans h.output,Nat.le_trans h.size k.size,fun i hi hm=>(k.block i (Nat.lt_of_lt_of_le hi h.size) hm).trans<|h.block i hi hm⟩
theorem o7.below{B:aH}{b:Nat}{w w':World}(h:o7 b w w')(hb:B.may b):bp B w w':=⟨h.os,h.tape,h.output,by rw[h.size];exact Nat.le_refl _,fun k _ hm=>h.block k fun e=>hm (by rw[e];exact hb)⟩
theorem Fz.of{B:aH}{ρ σ:aj}{h h':Tr U}{w w':World}(f:Fz B ρ h w)(hl:ρ.le σ)(hw:∀b,b<w.heap.size->jE ρ h b->w'.heap[b]? =w.heap[b]?)(hd:∀b,b<w.heap.size->jE ρ h b->jE σ h' b)(hm:∀k,top<=k->σ k=ρ k:=by(intro k hk;first|rfl|exact gN _ _<|by omega)):Fz B σ h' w':=by intro n b sh e;rw[hm _<|fI _ _ _] at e;obtain⟨h0,l,c,e',fr,h1,h3,h4,h5⟩:=f n b sh e;have hb:b<w.heap.size:=(Array.getElem?_eq_some_iff.1 h3).1;exact⟨h0,l,c,e',fr,h1,(hw b hb h4).trans h3,hd b hb h4,fun i x hx=>by obtain⟨v,a1,a2,a3⟩:=h5 i x hx;exact⟨v,a1,VR.mono (HZ hl) _ _ a2,a3⟩⟩
theorem jE.sub{ρ:aj}{h h':Tr U}{b:Nat}(k:jE ρ h b)(hs:∀m o,m<top->h'.get m=some o->o.bQ=false->∃p,h.get m=some p/\p.bQ=false):jE ρ h' b:=by intro m o N hm hg hr;obtain⟨p,e1,e2⟩:=hs m o hm hg hr;exact k m p N hm e1 e2
def U.plain:U->Bool
 | .iter _ _ _ _ _=>false
 | .fp=>false
 | .tok _ _=>false
 |_=>true
def U.fJ:U->Bool
 | .iter _ _ _ _ _=>false
 | .fp=>false
 |_=>true
def U.mb:U->Bool
 | .tok _ _=>true
 |_=>false
def ff(o1 o2:U):Prop:=(o2.bQ=false->o1.bQ=false)/\(o2.mb=true->o1=o2)/\(o2.kA=true->o1.kA=true)
theorem ff.refl(o:U):ff o o:=⟨id,fun _=>rfl,id⟩
def U.own:U->Bool
 | .iter _ _ _ _ _=>false
 | .fp=>false
 | .tok _ _=>false
 | .ro _ _=>false
 | .nf _ _=>false
 |_=>true
theorem U.rK{o:U}(h:o.own=true):o.plain=true/\o.bQ=false:=by cases o<;>first|exact⟨rfl,rfl⟩|cases h
theorem Rel.block{B:aH}{ρ:aj}{h:Tr U}{w:World}(r:Rel B ρ h w){n:Nat}{o:U}{b N:Nat}(ht:n<top)(hg:h.get n=some o)(hr:ρ n=some (b,N)):
 ∃o',w.heap[b]? =some o'/\OR ρ N o o'/\(o.bQ=false->B.may b):=by
 obtain⟨b',N',o',h1,h2,h3,h4⟩:=r.is n o ht hg;rw[hr] at h1;cases h1;exact⟨o',h2,h3,h4⟩
theorem jr.nq{ρ:aj}{w w':World}{n m:Nat}{es:List<|AV×AV}{ex:Bool}{left:List<|AV×AV}{cur:Option<|AV×AV}{b:Nat}(u:jr ρ w n m es ex left cur)(hw:∀k,k≠b->w'.heap[k]? =w.heap[k]?)(hn:∀N,ρ n≠some (b,N))(hm:∀N,ρ m≠some (b,N)):jr ρ w' n m es ex left cur:=by obtain⟨b1,N,bm,M,l,aM,seen,h1,h2,h3,h4,h5⟩:=u;exact⟨b1,N,bm,M,l,aM,seen,h1,h2,(hw b1 fun e=>hn N<|by rw[h1,e]).trans h3,(hw bm fun e=>hm M<|by rw[h2,e]).trans h4,h5⟩
theorem Rel.put{B:aH}{ρ:aj}{h:Tr U}{w w':World}(r:Rel B ρ h w){n:Nat}{p o:U}{o':Obj}{b N:Nat}(ht:n<top)(hg:h.get n=some p)(hp:p.plain=true)(cn:p.bQ=false)(hr:ρ n=some (b,N))(yG:o.own=true)(hw:o7 b w w')(hb:w'.heap[b]? =some o')(hO:OR ρ N o o'):Rel B ρ (h.put n<|some o) w':=by
 obtain⟨ho,xX⟩:=U.rK yG;obtain⟨_,_,_,hB⟩:=r.block ht hg hr;have g:∀m,m<top->(h.put n<|some o).get m=if m=n then some o else h.get m:=fun m hm=>Tr.cV _ _ _ _ ht hm
 refine⟨?_,?_,?_,by rw[hw.size];exact r.size,?_,r.fz.of (aj.le_refl _) (fun b1 _ hn=>hw.block b1 fun e=>hn n p N ht hg cn (by rw[e];exact hr)) (fun b1 _ hn=>hn.sub fun m q hm hq dm=>by
  rw[g m hm] at hq;by_cases e:m=n
  ·subst e;exact⟨p,hg,cn⟩
  ·rw[if_neg e] at hq;exact⟨q,hq,dm⟩),r.tk.of (aj.le_refl _) (fun m q hm hq hr=>by
  rw[g m hm] at hq;by_cases e:m=n
  ·rw[if_pos e] at hq;cases hq;rw[xX] at hr;cases hr
  ·rw[if_neg e] at hq;exact hq) (by rw[hw.size];exact Nat.le_refl _) (fun b1 _ hn=>hw.block b1 fun e=>hn n p N ht hg cn (by rw[e];exact hr)) (fun b1 _ hn=>hn.sub fun m q hm hq dm=>by
  rw[g m hm] at hq;by_cases e:m=n
  ·subst e;exact⟨p,hg,cn⟩
  ·rw[if_neg e] at hq;exact⟨q,hq,dm⟩) fun _ _ _ _ _ e=>e⟩
 ·intro m q hm hq;rw[g m hm] at hq;by_cases e:m=n
  ·subst e;rw[if_pos rfl] at hq;cases hq;exact⟨b,N,o',hr,hb,hO,fun _=>hB cn⟩
  ·rw[if_neg e] at hq;obtain⟨b1,N1,o1,h1,h2,h3,h4⟩:=r.is m q hm hq;refine⟨b1,N1,o1,h1,(hw.block b1 fun e2=>?_).trans h2,h3,h4⟩;subst e2;exact e<|r.one m n q p b1 N1 N hm ht hq hg (.inr cn) h1 hr
 ·intro m k q q' b1 N1 M1 hm hk hq dk ct h1 h2;rw[g m hm] at hq;rw[g k hk] at dk;have live:∀j,j<top->∀x,(if j=n then some o else h.get j)=some x->∃y,h.get j=some y/\(x.bQ=false->y.bQ=false):=by
   intro j _ x hx;by_cases e:j=n
   ·subst e;exact⟨p,hg,fun _=>cn⟩
   ·rw[if_neg e] at hx;exact⟨x,hx,id⟩
  obtain⟨y,hy,mA⟩:=live m hm q hq;obtain⟨z,hz,tK⟩:=live k hk q' dk;exact r.one m k y z b1 N1 M1 hm hk hy hz (ct.imp mA tK) h1 h2
 ·intro i m es ex left cur hi hq;rw[g i hi] at hq;by_cases e:i=n
  ·subst e;rw[if_pos rfl] at hq;cases hq;simp[U.plain] at ho
  ·rw[if_neg e] at hq;obtain⟨hm,hl,u⟩:=r.iter i m es ex left cur hi hq;have mC:m≠n:=by intro e2;subst e2;rw[hg] at hl;cases hl;simp[U.plain] at hp
   refine⟨hm,by rw[g m hm,if_neg mC];exact hl,u.nq hw.block (fun M e2=>e ?_) fun M e2=>mC ?_⟩
   ·exact r.one i n _ p b M N hi ht hq hg (.inr cn) e2 hr
   ·exact r.one m n _ p b M N hm ht hl hg (.inr cn) e2 hr
 ·intro i j m es ex left cur dT fM fB fD hi hj h1 h2;rw[g i hi] at h1;rw[g j hj] at h2;by_cases e:i=n
  ·rw[if_pos e] at h1;cases h1;simp[U.plain] at ho
  ·rw[if_neg e] at h1;by_cases e2:j=n
   ·rw[if_pos e2] at h2;cases h2;simp[U.plain] at ho
   ·rw[if_neg e2] at h2;exact r.lone i j m es ex left cur dT fM fB fD hi hj h1 h2
theorem Rel.drop{B:aH}{ρ:aj}{h:Tr U}{w:World}(r:Rel B ρ h w){n:Nat}(ht:n<top)(hn:h.get n≠some .fp):Rel B ρ (h.put n none) w:=by
 have g:∀m,m<top->(h.put n none).get m=if m=n then none else h.get m:=fun m hm=>Tr.cV _ _ _ _ ht hm
 refine⟨?_,?_,?_,r.size,?_,r.fz.of (aj.le_refl _) (fun _ _ _=>rfl) (fun b1 _ hn=>hn.sub fun m q hm hq dm=>by
  rw[g m hm] at hq;by_cases e:m=n
  ·rw[if_pos e] at hq;cases hq
  ·rw[if_neg e] at hq;exact⟨q,hq,dm⟩),r.tk.of (aj.le_refl _) (fun m q hm hq _=>by
  rw[g m hm] at hq;by_cases e:m=n
  ·rw[if_pos e] at hq;cases hq
  ·rw[if_neg e] at hq;exact hq) (Nat.le_refl _) (fun _ _ _=>rfl) (fun b1 _ hn=>hn.sub fun m q hm hq dm=>by
  rw[g m hm] at hq;by_cases e:m=n
  ·rw[if_pos e] at hq;cases hq
  ·rw[if_neg e] at hq;exact⟨q,hq,dm⟩) fun _ _ _ _ _ e=>e⟩
 ·intro m q hm hq;rw[g m hm] at hq;by_cases e:m=n
  ·rw[if_pos e] at hq;cases hq
  ·rw[if_neg e] at hq;exact r.is m q hm hq
 ·intro m k q q' b1 N1 M1 hm hk hq dk ct h1 h2;rw[g m hm] at hq;rw[g k hk] at dk;by_cases e:m=n
  ·rw[if_pos e] at hq;cases hq
  ·by_cases e2:k=n
   ·rw[if_pos e2] at dk;cases dk
   ·rw[if_neg e] at hq;rw[if_neg e2] at dk;exact r.one m k q q' b1 N1 M1 hm hk hq dk ct h1 h2
 ·intro i m es ex left cur hi hq;rw[g i hi] at hq;by_cases e:i=n
  ·rw[if_pos e] at hq;cases hq
  ·rw[if_neg e] at hq;obtain⟨hm,hl,u⟩:=r.iter i m es ex left cur hi hq;have mC:m≠n:=by intro e2;subst e2;exact hn hl
   exact⟨hm,by rw[g m hm,if_neg mC];exact hl,u⟩
 ·intro i j m es ex left cur dT fM fB fD hi hj h1 h2;rw[g i hi] at h1;rw[g j hj] at h2;by_cases e:i=n
  ·rw[if_pos e] at h1;cases h1
  ·rw[if_neg e] at h1;by_cases e2:j=n
   ·rw[if_pos e2] at h2;cases h2
   ·rw[if_neg e2] at h2;exact r.lone i j m es ex left cur dT fM fB fD hi hj h1 h2
structure dA (w w':World):Prop where
 os:w'.os=w.os
 tape:w'.tape=w.tape
 output:w'.output=w.output
 size:w.heap.size<=w'.heap.size
 block:∀k,k<w.heap.size->w'.heap[k]? =w.heap[k]?
theorem dA.drew(w:World):dA w {w with drawn:=w.drawn+1}:=⟨rfl,rfl,rfl,Nat.le_refl _,fun _ _=>rfl⟩
theorem dA.alloc(w:World)(o:Obj):dA w {w with heap:=w.heap.push o}:=⟨rfl,rfl,rfl,by simp,fun k hk=>by simp[Array.getElem?_push];intro e;omega⟩
theorem dA.trans{a b c:World}(h:dA a b)(k:dA b c):dA a c:=⟨k.os.trans h.os,k.tape.trans h.tape,k.output.trans h.output,Nat.le_trans h.size k.size,fun i hi=>(k.block i<|Nat.lt_of_lt_of_le hi h.size).trans<|h.block i hi⟩
theorem dA.below{B:aH}{w w':World}(h:dA w w')(_:∀k,w.heap.size<=k->B.may k):bp B w w':=⟨h.os,h.tape,h.output,h.size,fun k hk _=>h.block k hk⟩
theorem fU{w:World}{b:Nat}{o:Obj}(h:w.heap[b]? =some o):b<w.heap.size:=(Array.getElem?_eq_some_iff.1 h).1
theorem Rel.xY{B:aH}{ρ:aj}{h:Tr U}{w w':World}(r:Rel B ρ h w)(g:dA w w'):Rel B ρ h w':=by
 refine⟨?_,r.one,?_,fun k hk=>r.size k<|Nat.le_trans g.size hk,r.lone,r.fz.of (aj.le_refl _) (fun b hb _=>g.block b hb) fun _ _ hn=>hn,r.tk.of (aj.le_refl _) (fun _ _ _ hq _=>hq) g.size (fun b hb _=>g.block b hb) (fun _ _ hn=>hn) fun _ _ _ _ _ e=>e⟩
 ·intro m q hm hq;obtain⟨b1,N1,o1,h1,h2,h3,h4⟩:=r.is m q hm hq;exact⟨b1,N1,o1,h1,(g.block b1<|fU h2).trans h2,h3,h4⟩
 ·intro i m es ex left cur hi hq;obtain⟨hm,dO,b1,N,bm,M,l,aM,seen,h1,h2,h3,h4,h5⟩:=r.iter i m es ex left cur hi hq;exact⟨hm,dO,b1,N,bm,M,l,aM,seen,h1,h2,(g.block b1<|fU h3).trans h3,(g.block bm<|fU h4).trans h4,h5⟩
theorem Rel.name{B:aH}{ρ:aj}{h:Tr U}{w:World}(r:Rel B ρ h w){n:Nat}{o:U}{o':Obj}{b N:Nat}(ht:n<top)(tL:ρ n=none)(ho:o.plain=true)(hb:w.heap[b]? =some o')(hB:o.bQ=false->B.may b)(Tm:∀k sh,ρ (hn k b sh)=none)(iZ:∀m p,m<top->h.get m=some p->∀M,ρ m≠some (b,M))(hO:OR (eg ρ n (b,N)) N o o')(hT:ov B (eg ρ n (b,N)) (h.put n<|some o) w):Rel B (eg ρ n (b,N)) (h.put n<|some o) w:=by
 have hl:ρ.le<|eg ρ n (b,N):=lZ tL;have fN:h.get n=none:=by
  cases e:h.get n with
  |none=>rfl
  |some p=>obtain⟨_,_,_,h1,_⟩:=r.is n p ht e;rw[tL] at h1;cases h1
 have g:∀m,m<top->(h.put n<|some o).get m=if m=n then some o else h.get m:=fun m hm=>Tr.cV _ _ _ _ ht hm
 refine⟨?_,?_,?_,r.size,?_,fun k b1 sh e=>by
  rw[gN ρ _ (by have:=fI k b1 sh;omega)] at e;obtain⟨h0,l,c,e',fr,h1,h3,h4,h5⟩:=r.fz k b1 sh e;refine⟨h0,l,c,e',fr,h1,h3,fun m q M hm hq dm e2=>?_,fun i x hx=>by obtain⟨v,a1,a2,a3⟩:=h5 i x hx;exact⟨v,a1,VR.mono (HZ hl) _ _ a2,a3⟩⟩;rw[g m hm] at hq;by_cases e3:m=n
  ·subst e3;rw[fH] at e2;cases e2;exact e (Tm k sh)
  ·rw[if_neg e3] at hq;rw[gN ρ _ e3] at e2;exact h4 m q M hm hq dm e2,hT⟩
 ·intro m q hm hq;rw[g m hm] at hq;by_cases e:m=n
  ·subst e;rw[if_pos rfl] at hq;cases hq;exact⟨b,N,o',fH _ _ _,hb,hO,hB⟩
  ·rw[if_neg e] at hq;obtain⟨b1,N1,o1,h1,h2,h3,h4⟩:=r.is m q hm hq;exact⟨b1,N1,o1,hl _ _ h1,h2,h3.mono hl,h4⟩
 ·intro m k q q' b1 N1 M1 hm hk hq dk ct h1 h2;rw[g m hm] at hq;rw[g k hk] at dk;by_cases e:m=n
  ·by_cases e2:k=n
   ·omega
   ·rw[if_neg e2] at dk;subst e;rw[fH] at h1;cases h1;rw[gN ρ _ e2] at h2;exact absurd h2<|iZ k q' hk dk M1
  ·rw[if_neg e] at hq;rw[gN ρ _ e] at h1;by_cases e2:k=n
   ·subst e2;rw[fH] at h2;cases h2;exact absurd h1<|iZ m q hm hq N1
   ·rw[if_neg e2] at dk;rw[gN ρ _ e2] at h2;exact r.one m k q q' b1 N1 M1 hm hk hq dk ct h1 h2
 ·intro i m es ex left cur hi hq;rw[g i hi] at hq;by_cases e:i=n
  ·subst e;rw[if_pos rfl] at hq;cases hq;simp[U.plain] at ho
  ·rw[if_neg e] at hq;obtain⟨hm,dO,u⟩:=r.iter i m es ex left cur hi hq;have mC:m≠n:=by intro e2;subst e2;rw[fN] at dO;cases dO
   exact⟨hm,by rw[g m hm,if_neg mC];exact dO,u.mono hl⟩
 ·intro i j m es ex left cur dT fM fB fD hi hj h1 h2;rw[g i hi] at h1;rw[g j hj] at h2;by_cases e:i=n
  ·rw[if_pos e] at h1;cases h1;simp[U.plain] at ho
  ·rw[if_neg e] at h1;by_cases e2:j=n
   ·rw[if_pos e2] at h2;cases h2;simp[U.plain] at ho
   ·rw[if_neg e2] at h2;exact r.lone i j m es ex left cur dT fM fB fD hi hj h1 h2
theorem Rel.new{B:aH}{ρ:aj}{h:Tr U}{w:World}(r:Rel B ρ h w){n:Nat}{o:U}{o':Obj}{N:Nat}(ht:n<top)(tL:ρ n=none)(yG:o.own=true)(hO:OR (eg ρ n (w.heap.size,N)) N o o'):Rel B (eg ρ n (w.heap.size,N)) (h.put n<|some o) {w with heap:=w.heap.push o'}:=by
 obtain⟨ho,xX⟩:=U.rK yG;refine(r.xY<|dA.alloc w o').name ht tL ho (by simp) (fun _=>r.size _<|Nat.le_refl _) (fun k sh=>by
  cases e:ρ (Rn.hn k w.heap.size sh) with
  |none=>rfl
  |some x=>obtain⟨_,_,_,_,_,_,h3,_⟩:=r.fz k w.heap.size sh (by rw[e];exact fun h=>by cases h);exact absurd (fU h3)<|Nat.lt_irrefl _) (fun m p hm hp M e=>?_) hO ?_
 ·obtain⟨b1,N1,o1,h1,h2,_⟩:=r.is m p hm hp;rw[e] at h1;cases h1;exact absurd (fU h2)<|Nat.lt_irrefl _
 ·have g:∀m,m<top->(h.put n<|some o).get m=if m=n then some o else h.get m:=fun m hm=>Tr.cV _ _ _ _ ht hm
  exact r.tk.of (lZ tL) (fun m q hm hq hr=>by
   rw[g m hm] at hq;by_cases e:m=n
   ·rw[if_pos e] at hq;cases hq;rw[xX] at hr;cases hr
   ·rw[if_neg e] at hq;exact hq) (dA.alloc w o').size (fun b hb _=>(dA.alloc w o').block b hb) (fun b1 nC hn m q M hm hq dm e2=>by
   rw[g m hm] at hq;by_cases e3:m=n
   ·subst e3;rw[fH] at e2;cases e2;exact absurd nC (Nat.lt_irrefl _)
   ·rw[if_neg e3] at hq;rw[gN ρ _ e3] at e2;exact hn m q M hm hq dm e2) (fun j x sh _ _ e=>by rw[gN ρ _ (by have:=fI j x sh;omega)];exact e)
structure Ext (a b:Nat) (ρ σ:aj):Prop where
 le:ρ.le σ
 out:∀k,k<top->¬(a<=k/\k<b)->σ k=ρ k
theorem Ext.refl(a b:Nat)(ρ:aj):Ext a b ρ ρ:=⟨aj.le_refl ρ,fun _ _ _=>rfl⟩
theorem Ext.trans{a b c:Nat}{ρ σ τ:aj}(nD:a<=b)(Vo:b<=c)(h:Ext a b ρ σ)(k:Ext b c σ τ):Ext a c ρ τ:=⟨aj.le_trans h.le k.le,fun j hj hk=>(k.out j hj<|by omega).trans<|h.out j hj<|by omega⟩
theorem Ext.bB{n:Nat}{ρ:aj}{x:Nat×Nat}(h:ρ n=none):Ext n (n+1) ρ<|eg ρ n x:=⟨lZ h,fun k _ hk=>gN ρ x<|by omega⟩
def bL(a b:Nat)(ρ:aj):Prop:=∀k,a<=k->k<b->k<top->ρ k=none
theorem bL.next{a b c:Nat}{ρ σ:aj}(hf:bL a c ρ)(nD:a<=b)(e:Ext a b ρ σ):bL b c σ:=fun k h1 h2 h3=>(e.out k h3<|by omega).trans<|hf k (by omega) h2 h3
theorem bL.sub{a b c d:Nat}{ρ:aj}(hf:bL a d ρ)(h1:a<=b)(h2:c<=d):bL b c ρ:=fun k p q r=>hf k (by omega) (by omega) r
end Go.Rn
namespace Go.Rn
open Go.RowKit
theorem eS{n:Nat}{o:U}{s s1:AS}(h:a9 n s= .ok o s1):n<s.nx/\s.h.get n=some o/\s1.h=s.h/\s1.nx=s.nx:=by
 obtain⟨h1,h2,rfl⟩:=Di h;by_cases e:n<s.mark
 ·rw[if_pos e];exact⟨h1,h2,rfl,rfl⟩
 ·rw[if_neg e];exact⟨h1,h2,rfl,rfl⟩
theorem hY{n:Nat}{o:Option U}{u:Unit}{s s1:AS}(h:ba n o s= .ok u s1):
 n<s.nx/\n<top/\(∃p,s.h.get n=some p/\p.bQ=false)/\s1.h=s.h.put n o/\s1.nx=s.nx:=by
 obtain⟨h1,h2,h3,rfl⟩:=IJ h;by_cases e:n<s.mark
 ·rw[if_pos e];exact⟨h1,h2,h3,rfl,rfl⟩
 ·rw[if_neg e];exact⟨h1,h2,h3,rfl,rfl⟩
theorem aK{n m:Nat}:Nat.ble n m=true↔n<=m:=by rw[Nat.ble_eq]
theorem cC{n m:Nat}:Nat.beq n m=true↔n=m:=by rw[Nat.beq_eq]
theorem and_true{a b:Bool}:and a b=true↔a=true/\b=true:=Bool.and_eq_true_iff
theorem zF{t:Tr AV}{z:List AV}:∀{k off:Nat} {l:List AV},fy t z k off=some l->l.length=k/\∀i,i<k->cellAt t z (off+i)=l[i]?
 |0,off,l,h=>by
  simp only[fy] at h;injection h with h;subst h
  exact⟨rfl,fun i hi=>by omega⟩
 |k+1,off,l,h=>by
  simp only[fy] at h;cases e:cellAt t z off with
  |none=>rw[e] at h;cases h
  |some v=>
   simp only[e] at h;cases e2:fy t z k (off+1) with
   |none=>simp only[e2] at h;cases h
   |some r=>
    simp only[e2] at h;injection h with h;subst h
    obtain⟨a,b⟩:=zF e2;refine⟨by simp[a],fun i hi=>?_⟩;cases i with
    |zero=>simpa using e
    |succ i=>have:=b i (by omega);rw[show off+1+i=off+(i+1) from by omega] at this;simpa using this
def Row(ρ:aj)(c:Array Value)(n:Nat)(I:Nat->Option AV):Prop:=∀i,i<n->∃x v,I i=some x/\x.bu=true/\c[i]? =some v/\VR ρ x v
theorem Row.get{ρ:aj}{c:Array Value}{n:Nat}{I:Nat->Option AV}(r:Row ρ c n I){off k:Nat}{l:List AV}(hk:off+k<=n)(hl:l.length=k)(h:∀i,i<k->I (off+i)=l[i]?):
 ∃vs:List Value,vs.length=k/\av ρ l vs/\(∀j v,vs[j]? =some v->c[off+j]? =some v)/\∀x∈l,x.bu=true:=by
 have cell:∀i,i<k->∃x v,l[i]? =some x/\x.bu=true/\c[off+i]? =some v/\VR ρ x v:=by intro i hi;obtain⟨x,v,h1,h2,h3,h4⟩:=r (off+i) (by omega);exact⟨x,v,by rw[←h i hi];exact h1,h2,h3,h4⟩
 refine⟨(List.range k).map fun i=>c.getD (off+i) undef,by simp,?_,?_,?_⟩
 ·refine av.Dz _ _ (by simp[hl]) fun i a b ha hb=>?_;have hi:i<k:=by have:=List.getElem?_eq_some_iff.1 ha;obtain⟨h1,_⟩:=this;omega
  obtain⟨x,v,h1,h2,h3,h4⟩:=cell i hi;rw[h1] at ha;cases ha;have ft:b=v:=by rw[List.getElem?_map,List.getElem?_range hi] at hb;simp only[Option.map_some,Option.some.injEq] at hb;rw[←hb,Array.getD_eq_getD_getElem?,h3];rfl
  rw[ft];exact h4
 ·intro j v hv;have hj:j<k:=by have:=List.getElem?_eq_some_iff.1 hv;obtain⟨h1,_⟩:=this;simpa using h1
  obtain⟨x,u,h1,h2,h3,h4⟩:=cell j hj;rw[List.getElem?_map,List.getElem?_range hj] at hv;simp only[Option.map_some,Option.some.injEq] at hv;rw[←hv,Array.getD_eq_getD_getElem?,h3];rfl
 ·intro x hx;obtain⟨i,hi,rfl⟩:=List.getElem_of_mem hx;obtain⟨y,v,h1,h2,h3,h4⟩:=cell i (by omega);rw[List.getElem?_eq_getElem hi] at h1;cases h1;exact h2
theorem zY{P:Program}{w:World}{b off:Nat}{c:Array Value}{e:TypeId}{fr:Nat×Nat}{vs:List Value}(hb:w.heap[b]? =some (.cells c e fr))(h:∀j v,vs[j]? =some v->c[off+j]? =some v):(loadCells ⟨b,off,none⟩ vs.length).run P w= .ok vs.toArray w:=by
 refine run_loadCells_list w ⟨b,off,none⟩ vs fun j v hv=>?_;have Ko:(Addr.mk b off none).add j=⟨b,off+j,none⟩:=by
  unfold Addr.add;by_cases q:j=0
  ·subst q;simp
  ·rw[if_neg q]
 rw[Ko];simp only[World.cell?,hb];exact h j v hv
theorem nO{P:Program}{B:aH}{ρ:aj}{w:World}{n off k:Nat}{l:List AV}{s s1:AS}{b N:Nat}(fi:aS s)(r:Rel B ρ s.h w)(h:dH n off k s= .ok l s1)(hn:ρ n=some (b,N)):
 s1.h=s.h/\s1.nx=s.nx/\l.length=k/\(∀x∈l,x.bu=true)/\∃vs:List Value,(loadCells ⟨b,off,none⟩ k).run P w= .ok vs.toArray w/\av ρ l vs/\∀j v,vs[j]? =some v->w.cell? ⟨b,off+j,none⟩=some v:=by
 cases k with
 |zero=>have h':M.pure [] s= .ok l s1:=h;obtain⟨rfl,rfl⟩:=aQ h';exact⟨rfl,rfl,rfl,fun x hx=>(by cases hx),[],rfl,by simp[av],fun j v h=>(by simp at h)⟩
 |succ k=>
  unfold dH at h;obtain⟨o,s2,h1,h2⟩:=M.aL h;obtain⟨hx,hg,hh,bq⟩:=eS h1;have ht:n<top:=Nat.lt_of_lt_of_le hx fi.nx;obtain⟨o',hb,hO,_⟩:=r.block ht hg hn;cases o with
  |cells m t z=>obtain⟨q1,q2⟩:=bP h2;obtain⟨q3,rfl⟩:=dt q2;obtain⟨c,e,rfl,hc,hm,row⟩:=hO;obtain⟨g1,g2⟩:=zF q3;obtain⟨vs,v1,v2,v3,v4⟩:=Row.get (ρ:=ρ) (c:=c) (n:=m) (I:=cellAt t z) row (aK.1 q1) g1 g2;refine⟨hh,bq,g1,v4,vs,?_,v2,fun j v hv=>by simp only[World.cell?,hb];exact v3 j v hv⟩;have:=zY (P:=P) hb v3;rw[v1] at this;exact this
  |ro m t=>
   obtain⟨q1,q2⟩:=bP h2;obtain⟨q3,rfl⟩:=dt q2;obtain⟨c,e,fr,rfl,hc,hm,row⟩:=hO;obtain⟨g1,g2⟩:=zF q3;have Se:Row ρ c m<|cellAt t []:=by intro i hi;obtain⟨x,v,a1,a2,a3,a4⟩:=row i hi;exact⟨x,v,by unfold cellAt;rw[a1],a2,a3,a4⟩
   obtain⟨vs,v1,v2,v3,v4⟩:=Se.get (aK.1 q1) g1 g2;refine⟨hh,bq,g1,v4,vs,?_,v2,fun j v hv=>by simp only[World.cell?,hb];exact v3 j v hv⟩;have:=zY (P:=P) hb v3;rw[v1] at this;exact this
  |_=>cases h2
theorem Cc{w:World}{b:Nat}{cs c:Array Value}{e:TypeId}{fr:Nat×Nat}(hb:w.heap[b]? =some (.cells c e fr)):
 o7 b w (w.setRow b cs)/\(w.setRow b cs).heap[b]? =some (.cells cs e fr):=by
 refine⟨⟨rfl,rfl,rfl,by simp[World.setRow],fun k hk=>?_⟩,setRow_heap w b c cs e fr hb⟩;simp only[World.setRow,Array.getElem?_modify];rw[if_neg<|by omega]
theorem ME{ρ:aj}{x:AV}{v:Value}(h:VR ρ x v)(hx:x.bu=true):v.oneCell'=true:=by
 cases v with
 |agg cs=>exact absurd rfl (VR.bu h hx cs).1
 |tuple cs=>exact absurd rfl (VR.bu h hx cs).2
 |_=>rfl
theorem zA{ρ:aj}:∀{l:List AV} {vs:List Value},av ρ l vs->(∀x∈l,x.bu=true)->∀v∈vs,v.oneCell'=true
 |[],vs,h,_,v,hv=>by simp only[av] at h;subst h;cases hv
 |x::l,vs,h,hx,v,hv=>by
  simp only[av] at h;obtain⟨y,ys,rfl,a,b⟩:=h;rcases List.mem_cons.1 hv with rfl|hv
  ·exact ME a<|hx x List.mem_cons_self
  ·exact zA b (fun z hz=>hx z<|List.mem_cons_of_mem _ hz) v hv
theorem Row.set{ρ:aj}{c:Array Value}{n:Nat}{t:Tr AV}{z:List AV}(r:Row ρ c n<|cellAt t z){off m:Nat}{l:List AV}{vs:List Value}(hl:av ρ l vs)(h1:∀x∈l,x.bu=true)(Vj:off<=n)(hm:m=max n (off+l.length))(hc:m<=c.size)(ht:m<=top):
 Row ρ ((c.toList.take off++vs++c.toList.drop (off+vs.length)).toArray) m (cellAt (Tr.fill l off t) z):=by
 have hlen:l.length=vs.length:=hl.length;intro i hi;have Sf:cellAt (Tr.fill l off t) z i=match (Tr.fill l off t).get i with|some v=>some v|none=>z[i % z.length]? :=rfl
 rw[Sf,Tr.CX _ _ _ _ (by omega)<|by omega];by_cases q:off<=i/\i<off+l.length
 ·rw[if_pos q];obtain⟨x,hx⟩:∃x,l[i - off]? =some x:=⟨l[i - off]'(by omega),List.getElem?_eq_getElem<|by omega⟩;obtain⟨v,hv,hr⟩:=hl.get (i - off) x hx;refine⟨x,v,by rw[hx],h1 x<|List.mem_of_getElem? hx,?_,hr⟩;simp only[List.getElem?_toArray];rw[List.append_assoc,List.getElem?_append_right (by simp;omega)];simp only[List.length_take,Array.length_toList];rw[Nat.min_eq_left (by omega),List.getElem?_append_left<|by omega];exact hv
 ·rw[if_neg q];have fw:i<n:=by omega
  obtain⟨x,v,a1,a2,a3,a4⟩:=r i fw;refine⟨x,v,a1,a2,?_,a4⟩;simp only[List.getElem?_toArray];by_cases q2:i<off
  ·rw[List.append_assoc,List.getElem?_append_left (by simp;omega),List.getElem?_take_of_lt q2];simpa using a3
  ·rw[List.getElem?_append_right (by simp;omega)];simp only[List.length_append,List.length_take,Array.length_toList,List.getElem?_drop];rw[Nat.min_eq_left<|by omega];rw[show off+vs.length+(i - (off+vs.length))=i from by omega];simpa using a3
theorem size_set{c:Array Value}{vs:List Value}{off:Nat}(h:off+vs.length<=c.size):((c.toList.take off++vs++c.toList.drop (off+vs.length)).toArray).size=c.size:=by simp;omega
theorem Cz{P:Program}{w:World}{b off:Nat}{c:Array Value}{e:TypeId}{vs:List Value}(hb:w.heap[b]? =some (.cells c e (0,0)))(h:off+vs.length<=c.size)(h1:∀v∈vs,v.oneCell'=true):
 (storeCells ⟨b,off,none⟩ vs).run P w= .ok () (w.setRow b (c.toList.take off++vs++c.toList.drop (off+vs.length)).toArray):=by
 have:=run_storeCells_at P b off e vs 0 c w hb (by simpa using h) h1;simpa using this
theorem zx{P:Program}{B:aH}{ρ:aj}{w:World}{n off:Nat}{l:List AV}{vs:List Value}{u:Unit}{s s1:AS}{b N:Nat}(fi:aS s)(r:Rel B ρ s.h w)(h:kj n off l s= .ok u s1)(hn:ρ n=some (b,N))(hl:av ρ l vs):
 s1.nx=s.nx/\∃w',(storeCells ⟨b,off,none⟩ vs).run P w= .ok () w'/\Rel B ρ s1.h w'/\bp B w w':=by
 cases l with
 |nil=>simp only[av] at hl;subst hl;have h':M.pure () s= .ok u s1:=h;obtain⟨_,rfl⟩:=aQ h';exact⟨rfl,w,rfl,r,bp.refl _ _⟩
 |cons x l=>
  unfold kj at h;obtain⟨o,s2,h1,h2⟩:=M.aL h;obtain⟨hx,hg,hh,bq⟩:=eS h1;have ht:n<top:=Nat.lt_of_lt_of_le hx fi.nx;obtain⟨o',hb,hO,hB⟩:=r.block ht hg hn;cases o with
  |cells m t z=>obtain⟨q1,q2⟩:=bP h2;obtain⟨q3,q4⟩:=and_true.1 q1;obtain⟨q5,q6⟩:=and_true.1 q4;obtain⟨_,_,_,e1,e2⟩:=hY q2;obtain⟨c,e,rfl,hc,hm,row⟩:=hO;have hlen:(x::l).length=vs.length:=hl.length;have h3:off+(x::l).length<=m:=aK.1 q3;have h4:m<=top:=aK.1 q5;have h5:∀y∈x::l,y.bu=true:=fun y hy=>List.all_eq_true.1 q6 y hy;have jG:=Cz (P:=P) (off:=off) (vs:=vs) hb (by omega)<|zA hl h5;obtain⟨g1,g2⟩:=Cc (cs:=(c.toList.take off++vs++c.toList.drop (off+vs.length)).toArray) hb;refine⟨by rw[e2,bq],_,jG,?_,g1.below<|hB rfl⟩;rw[e1,hh];refine r.put ht hg rfl rfl hn rfl g1 g2 ?_;refine⟨_,e,rfl,(size_set<|by omega).trans hc,hm,?_⟩;exact Row.set (ρ:=ρ) (c:=c) (n:=m) row hl h5 (by omega) (by omega) (by omega) h4
  |_=>cases h2
theorem p6{l:List AV}{i:Nat}(hl:l.length<=top)(hi:i<l.length):cellAt (Tr.fill l 0 .nil) [] i=l[i]? :=by unfold cellAt;rw[Tr.CX _ _ _ _ (by omega) (by omega),if_pos<|by omega];rw[Nat.sub_zero,List.getElem?_eq_getElem hi]
theorem Co{P:Program}{B:aH}{ρ:aj}{w:World}{l:List AV}{vs:List Value}{n:Nat}{s s1:AS}(e:TypeId)(rest:List Value)(r:Rel B ρ s.h w)(hf:bL s.nx s1.nx ρ)(h:newRow l s= .ok n s1)(hl:av ρ l vs):
 n=s.nx/\s1.nx=s.nx+1/\∃σ,Ext s.nx s1.nx ρ σ/\σ n=some (w.heap.size,vs.length+rest.length)/\
  (Go.newRow e (vs++rest).toArray).run P w= .ok ⟨w.heap.size,0,none⟩ {w with heap:=w.heap.push<|.cells (vs++rest).toArray e}/\
  Rel B σ s1.h {w with heap:=w.heap.push<|.cells (vs++rest).toArray e}:=by
 unfold newRow at h;obtain⟨q1,q2⟩:=bP h;obtain⟨q3,q4⟩:=and_true.1 q1;obtain⟨ht,rfl,rfl⟩:=kX q2;have h1:∀y∈l,y.bu=true:=fun y hy=>List.all_eq_true.1 q4 y hy;have h2:l.length<=top:=aK.1 q3;have hlen:=hl.length;have eG:ρ s.nx=none:=hf s.nx (Nat.le_refl _) (Nat.lt_succ_self _) (by omega);refine⟨rfl,rfl,eg ρ s.nx (w.heap.size,vs.length+rest.length),Ext.bB eG,fH _ _ _,rfl,?_⟩;refine r.new ht eG rfl ?_;refine⟨_,e,rfl,by simp,by omega,fun i hi=>?_⟩;obtain⟨x,hx⟩:∃x,l[i]? =some x:=⟨l[i]'hi,List.getElem?_eq_getElem hi⟩;obtain⟨v,hv,hr⟩:=hl.get i x hx;refine⟨x,v,by rw[p6 h2 hi];exact hx,h1 x<|List.mem_of_getElem? hx,?_,hr.mono<|lZ eG⟩;simp only[List.getElem?_toArray];rw[List.getElem?_append_left<|by omega];exact hv
end Go.Rn
namespace Go.Rn
open Go.RowKit
theorem GY(ρ:aj){v:Value}{x:AV}(h:xq v=some x):VR ρ x v:=by
 unfold xq at h;split at h<;>first
  |(injection h with h;subst h;simp only[VR];done)
  |(cases h;done)
  |skip
 rename_i len cap;cases hb:(Nat.beq len 0&&Nat.beq cap 0) with
 |false=>rw[hb] at h;cases h
 |true=>
  rw[hb] at h;injection h with h;subst h
  obtain⟨a,b⟩:=and_true.1 hb;have a':=cC.1 a;have b':=cC.1 b;subst a';subst b';simp[VR]
theorem Cd(ρ:aj):∀{l:List Value} {x:List AV},oV l=some x->av ρ x l
 |[],x,h=>by simp only[oV] at h;injection h with h;subst h;simp only[av]
 |v::l,x,h=>by
  simp only[oV] at h;cases e:xq v with
  |none=>rw[e] at h;cases h
  |some y=>
   simp only[e] at h;cases e2:oV l with
   |none=>simp only[e2] at h;cases h
   |some r=>
    simp only[e2] at h;injection h with h;subst h
    simp only[av];exact⟨v,l,rfl,GY ρ e,Cd ρ e2⟩
theorem Ce(ρ:aj){v:Value}{x:AV}(h:ofValue v=some x):VR ρ x v:=by
 unfold ofValue at h;split at h
 ·rename_i cs;cases e:oV cs.toList with
  |none=>rw[e] at h;cases h
  |some l=>simp only[e] at h;injection h with h;subst h;simp only[VR];exact⟨cs,rfl,Cd ρ e⟩
 ·rename_i cs;cases e:oV cs.toList with
  |none=>rw[e] at h;cases h
  |some l=>simp only[e] at h;injection h with h;subst h;simp only[VR];exact⟨cs,rfl,Cd ρ e⟩
 ·exact GY ρ h
def eh(ρ:aj):Prop:=∀g,g<gj->∃N,ρ g=some (g,N)
theorem eh.mono{ρ σ:aj}(h:eh ρ)(l:ρ.le σ):eh σ:=fun g hg=>let ⟨N,e⟩:=h g hg;⟨N,l _ _ e⟩
theorem xh{ρ:aj}{nt:Nat}{t:Tr AV}{a:Act}(k:TR ρ nt t a.tmps)(hg:eh ρ){x:Operand}{v:AV}(h:ar t x=some v):VR ρ v<|a.eval x:=by
 cases x with
 |tmp i=>exact k.2 i v h
 |const c=>exact Ce ρ h
 |global g=>
  have h': @Bool.rec (fun _=>Option AV) none (some<|.ptr<|some (g,0)) (Nat.blt g gj)=some v:=h;rw[uN] at h';by_cases e:g<gj
  ·rw[if_pos e] at h';injection h' with h';subst h'
   obtain⟨N,hN⟩:=hg g e;simp only[VR];exact⟨g,N,hN,rfl⟩
  ·rw[if_neg e] at h';cases h'
 |func f=>
  have h':some (AV.func (.func f) [] [])=some v:=h;injection h' with h';subst h'
  simp only[VR,av];exact⟨rfl, #[], #[],rfl,rfl,rfl⟩
theorem uF{ρ:aj}{ev:Operand->Option AV}{ec:Operand->Value}(he:∀x v,ev x=some v->VR ρ v (ec x)):∀{l:List Operand} {vs:List AV},eJ ev l=some vs->av ρ vs (l.map ec)
 |[],vs,h=>by simp only[eJ] at h;injection h with h;subst h;simp only[av,List.map_nil]
 |x::l,vs,h=>by
  simp only[eJ] at h;cases e:ev x with
  |none=>rw[e] at h;cases h
  |some y=>
   simp only[e] at h;cases e2:eJ ev l with
   |none=>simp only[e2] at h;cases h
   |some r=>
    simp only[e2] at h;injection h with h;subst h
    simp only[av,List.map_cons];exact⟨_,_,rfl,he x y e,uF he e2⟩
section
variable {P:Program} {w:World}
theorem aV{t:TypeId}{d:TypeDesc}(h:P.underlying t=some d):(underlying t).run P w= .ok d w:=by simp[underlying,h]
theorem mK{t:TypeId}{i:TypeInfo}(h:P.info? t=some i):(typeInfo t).run P w= .ok i w:=by simp[typeInfo,h]
theorem dc{t:TypeId}{k:Nat}(h:cd P t=some k):(sizeOf t).run P w= .ok k w:=by
 unfold cd at h;cases e:P.info? t with
 |none=>rw[e] at h;cases h
 |some i=>simp only[e] at h;injection h with h;subst h;simp[sizeOf,mK e]
theorem rF(ρ:aj){t:TypeId}{z:AV}(h:fC P t=some z):∃v,(zeroValue t).run P w= .ok v w/\VR ρ z v:=by
 unfold fC at h;cases e:P.info? t with
 |none=>rw[e] at h;cases h
 |some i=>
  simp only[e] at h;cases e2:i.zero with
  |none=>simp only[e2] at h;cases h
  |some v=>simp only[e2] at h;exact⟨v,by simp[zeroValue,mK e,e2],Ce ρ h⟩
theorem rD{t:TypeId}{b:Bool}(h:ly P t=some b):(isAgg t).run P w= .ok b w:=by
 unfold ly at h;split at h<;>first|(cases h;done)|skip
 ·rename_i fs e;injection h with h;subst h;simp[isAgg,aV e]
 ·rename_i n m e;injection h with h;subst h;simp[isAgg,aV e]
 ·rename_i d h1 h2 e;injection h with h;subst h
  simp only[isAgg,Sem.run_bind,aV e,Result.andThen_ok];cases d<;>first|rfl|(exact absurd e<|h1 _)|(exact absurd e<|h2 _ _)
end
theorem Addr.jk(b o j:Nat):(Addr.mk b o none).add j=⟨b,o+j,none⟩:=by
 unfold Addr.add;by_cases q:j=0
 ·subst q;simp
 ·rw[if_neg q]
def dh(P:Program)(B:aH)(ρ:aj)(s s1:AS)(w:World)(x:AV)(c:Sem Next):Prop:=∃σ w' nv,Ext s.nx s1.nx ρ σ/\c.run P w= .ok nv w'/\(match nv with| .value v=>VR σ x v| .skip=>x=jN|_=>False)/\Rel B σ s1.h w'/\bp B w w'
def eK(P:Program)(B:aH)(ρ:aj)(s s1:AS)(w:World)(x:AV)(c:Sem Value):Prop:=∃σ w' v,Ext s.nx s1.nx ρ σ/\c.run P w= .ok v w'/\VR σ x v/\Rel B σ s1.h w'/\bp B w w'
theorem eK.op{P:Program}{B:aH}{ρ:aj}{s s1:AS}{w:World}{x:AV}{c:Sem Value}(h:eK P B ρ s s1 w x c):dh P B ρ s s1 w x (do pure (.value<|←c)):=by obtain⟨σ,w',v,a,b,d,e,f⟩:=h;exact⟨σ,w',.value v,a,by simp[b],d,e,f⟩
section
variable {P:Program} {B:aH} {ρ:aj} {w:World} {s s1:AS}
theorem Gy{t:TypeId}{n off:Nat}{x:AV}{b N:Nat}(fi:aS s)(r:Rel B ρ s.h w)(h:loadVar P t n off s= .ok x s1)(hn:ρ n=some (b,N)):
 s1.h=s.h/\s1.nx=s.nx/\∃v,(Go.loadVar t ⟨b,off,none⟩).run P w= .ok v w/\VR ρ x v:=by
 unfold loadVar at h;obtain⟨ag,h1,h2⟩:=bd h;cases ag with
 |true=>
  obtain⟨k,h3,h4⟩:=bd h2;obtain⟨l,s2,h5,h6⟩:=M.aL h4;obtain⟨rfl,rfl⟩:=aQ h6;obtain⟨a1,a2,a3,a4,vs,a5,a6,_⟩:=nO (P:=P) fi r h5 hn;refine⟨a1,a2,.agg vs.toArray,?_,?_⟩
  ·simp[Go.loadVar,rD h1,dc h3,a5]
  ·simp only[VR];exact⟨_,rfl,by simpa using a6⟩
 |false=>
  obtain⟨l,s2,h5,h6⟩:=M.aL h2;obtain⟨q,rfl⟩:=dt h6;obtain⟨a1,a2,a3,a4,vs,a5,a6,a7⟩:=nO (P:=P) fi r h5 hn;unfold one at q;split at q
  ·rename_i y;injection q with q;subst q
   simp only[av] at a6;obtain⟨v,ys,rfl,hv,rfl⟩:=a6;have hc:=a7 0 v rfl;refine⟨a1,a2,v,?_,hv⟩;simp only[Go.loadVar,Sem.run_bind,rD h1,Result.andThen_ok];simp[show w.cell? ⟨b,off,none⟩=some v from by simpa using hc]
  ·cases q
theorem MF{t:TypeId}{n off:Nat}{x:AV}{b sh:Nat}(fi:aS s)(r:Rel B ρ s.h w)(h:oW P t n off s= .ok x s1)(hn:ρ n=some (b,sh)):
 s1.h=s.h/\s1.nx=s.nx/\∃v,(Go.loadVar t ⟨b,sh+off,none⟩).run P w= .ok v w/\VR ρ x v:=by
 unfold oW at h;obtain⟨ag,h1,h2⟩:=bd h;cases ag with
 |true=>cases h2
 |false=>
  obtain⟨ob,s2,h3,h4⟩:=M.aL h2;obtain⟨hx,hg,hh,bq⟩:=eS h3;have ht:n<top:=Nat.lt_of_lt_of_le hx fi.nx;obtain⟨o',hb,hO,_⟩:=r.block ht hg hn;cases ob with
  |nf m tr=>
   obtain⟨q1,q2⟩:=bP h4;obtain⟨q3,rfl⟩:=dt q2;have aW:off<m:=by rw[←blt_eq];exact q1
   obtain⟨c,e,fr,rfl,row⟩:=hO;obtain⟨y,v,g1,g2,g3,g4⟩:=row off aW;rw[q3] at g1;injection g1 with g1;subst g1
   refine⟨hh,bq,v,?_,g4⟩;have hc:w.cell? ⟨b,sh+off,none⟩=some v:=by simp only[World.cell?,hb];exact g3
   simp only[Go.loadVar,Sem.run_bind,rD h1,Result.andThen_ok];simp[hc]
  |_=>cases h4
def sM(B:aH)(U7:aJ):Prop:=∀(n o k:Nat) (x:AV) (s s1:AS) (ρ:aj) (w:World),aS s->Rel B ρ s.h w->U7 (.row n o k) [] s= .ok x s1->s1.h=s.h/\s1.nx=s.nx/\∀b sh,ρ (hn n b sh)≠none->∃l vs,x= .agg l/\vs.length=k/\av ρ l vs/\∃c e fr,w.heap[b]? =some (.cells c e fr)/\∀(j:Nat) (v:Value),vs[j]? =some v->c[sh+o+j]? =some v
theorem M7{t:TypeId}{n off:Nat}{x:AV}{b sh:Nat}{U7:aJ}(dQ:sM B U7)(fi:aS s)(r:Rel B ρ s.h w)(h:n6 P t U7 n off s= .ok x s1)(hn:ρ (hn n b sh)≠none):
 s1.h=s.h/\s1.nx=s.nx/\∃v,(Go.loadVar t ⟨b,sh+off,none⟩).run P w= .ok v w/\VR ρ x v:=by
 unfold n6 at h;obtain⟨ag,h1,h2⟩:=bd h;obtain⟨k,h3,h4⟩:=bd h2;obtain⟨y,s2,h5,h6⟩:=M.aL h4;obtain⟨a1,a2,dQ⟩:=dQ _ _ _ _ _ _ _ _ fi r h5;obtain⟨l,vs,rfl,a3,a5,c,e,fr,a6,a7⟩:=dQ b sh hn;have kx:∀(j:Nat) (v:Value),vs[j]? =some v->w.cell? ⟨b,sh+off+j,none⟩=some v:=fun j v hj=>by simp only[World.cell?,a6];exact a7 j v hj
 cases ag with
 |true=>
  obtain⟨rfl,rfl⟩:=aQ h6;have xG:=zY (P:=P) (w:=w) a6 a7;rw[a3] at xG;refine⟨a1,a2,.agg vs.toArray,?_,?_⟩
  ·simp[Go.loadVar,rD h1,dc h3,xG]
  ·simp only[VR];exact⟨_,rfl,by simpa using a5⟩
 |false=>
  obtain⟨q,rfl⟩:=dt h6;unfold one at q;split at q
  ·rename_i y;injection q with q;subst q
   simp only[av] at a5;obtain⟨v,ys,rfl,hv,rfl⟩:=a5;have hc:=kx 0 v rfl;refine⟨a1,a2,v,?_,hv⟩;simp only[Go.loadVar,Sem.run_bind,rD h1,Result.andThen_ok];simp[show w.cell? ⟨b,sh+off,none⟩=some v from by simpa using hc]
  ·cases q
theorem Mr{t:TypeId}{n off:Nat}{x:AV}{v:Value}{u:Unit}{b N:Nat}(fi:aS s)(r:Rel B ρ s.h w)(h:storeVar P t n off x s= .ok u s1)(hn:ρ n=some (b,N))(hv:VR ρ x v):
 s1.nx=s.nx/\∃w',(Go.storeVar t ⟨b,off,none⟩ v).run P w= .ok () w'/\Rel B ρ s1.h w'/\bp B w w':=by
 unfold storeVar at h;obtain⟨k,h1,h2⟩:=bd h;obtain⟨h3,h4⟩:=bP h2;obtain⟨a1,w',a2,a3,a4⟩:=zx (P:=P) fi r h4 hn hv.cells;refine⟨a1,w',?_,a3,a4⟩;have hk:v.cells.size=k:=by have:=hv.cells.length;rw[cC.1 h3] at this;simpa using this.symm
 simp[Go.storeVar,dc h1,hk,a2]
theorem GZ{x:AV}{v:Value}{n:Nat}(e:TypeId)(r:Rel B ρ s.h w)(hf:bL s.nx s1.nx ρ)(h:newRow x.cells s= .ok n s1)(hv:VR ρ x v):
 ∃σ w' b N,Ext s.nx s1.nx ρ σ/\(Go.newVar e v).run P w= .ok ⟨b,0,none⟩ w'/\σ n=some (b,N)/\Rel B σ s1.h w'/\bp B w w':=by
 obtain⟨rfl,h1,σ,h2,h3,h4,h5⟩:=Co (P:=P) e [] r hf h hv.cells;refine⟨σ,_,_,_,h2,?_,h3,h5,(dA.alloc w _).below r.size⟩;have:(v.cells.toList++[]).toArray=v.cells:=by simp
 rw[this] at h4 ⊢;exact h4
end
theorem VR.uO{ρ:aj}{x:AV}{v:Value}{i:Int}(h:VR ρ x v)(hi:intOf x=some i):∃k,x= .int k i/\v= .int k i:=by
 cases x<;>simp only[intOf] at hi<;>first|(cases hi;done)|skip
 rename_i k n;injection hi with hi;subst hi
 simp only[VR] at h;exact⟨k,rfl,h⟩
theorem VR.H5{ρ:aj}{x:AV}{v:Value}{b:Bool}(h:VR ρ x v)(hi:xr x=some b):v= .bool b:=by
 cases x<;>simp only[xr] at hi<;>first|(cases hi;done)|skip
 injection hi with hi;subst hi
 simp only[VR] at h;exact h
theorem VR.C0{ρ:aj}{x:AV}{v:Value}{a:Nat×Nat}(h:VR ρ x v)(hi:addrOf x=some a):∃b N,ρ a.1=some (b,N)/\v= .pointer (some ⟨b,a.2,none⟩):=by
 unfold addrOf at hi;split at hi
 ·injection hi with hi;subst hi
  rename_i a;obtain⟨n,o⟩:=a;simp only[VR] at h;exact h
 ·cases hi
section
variable {P:Program} {B:aH} {ρ:aj} {w:World} {s s1:AS} {x:AV} {U7:aJ} {t:Tr AV} {ev:Operand->Value} {o:Oper}
theorem Hp{y:Operand}(he:∀x v,ar t x=some v->VR ρ v (ev x))(r:Rel B ρ s.h w)(h:od y U7 t s= .ok x s1)(ho:o.op= .move y\/o.op= .assign y):dh P B ρ s s1 w x<|execOp ev o:=by obtain⟨h1,rfl⟩:=dt (show lift (ar t y) s= .ok x s1 from h);refine⟨ρ,w,.value<|ev y,Ext.refl _ _ _,?_,he y x h1,r,bp.refl _ _⟩;rcases ho with ho|ho<;>simp[execOp,ho]
theorem NK{c a b:Operand}(he:∀x v,ar t x=some v->VR ρ v (ev x))(r:Rel B ρ s.h w)(h:sU c a b U7 t s= .ok x s1)(ho:o.op= .pick c a b):dh P B ρ s s1 w x<|execOp ev o:=by
 unfold sU at h;obtain⟨v,h1,h2⟩:=bd h;obtain⟨q,h3,h4⟩:=bd h2;obtain⟨va,h5,h6⟩:=bd h4;obtain⟨vb,h7,h8⟩:=bd h6;have hc:=(he c v h1).H5 h3;cases q with
 |true=>obtain⟨rfl,rfl⟩:=aQ h8;exact⟨ρ,w,.value<|ev a,Ext.refl _ _ _,by simp[execOp,ho,hc,asBool],he a _ h5,r,bp.refl _ _⟩
 |false=>obtain⟨rfl,rfl⟩:=aQ h8;exact⟨ρ,w,.value<|ev b,Ext.refl _ _ _,by simp[execOp,ho,hc,asBool],he b _ h7,r,bp.refl _ _⟩
theorem M8{e:TypeId}(r:Rel B ρ s.h w)(hf:bL s.nx s1.nx ρ)(h:Az P e U7 t s= .ok x s1)(ho:o.op= .alloc e):dh P B ρ s s1 w x<|execOp ev o:=by
 unfold Az at h;obtain⟨z,h1,h2⟩:=bd h;obtain⟨n,s2,h3,h4⟩:=M.aL h2;obtain⟨rfl,rfl⟩:=aQ h4;obtain⟨v,h5,h6⟩:=rF (P:=P) (w:=w) ρ h1;obtain⟨σ,w',b,N,a1,a2,a3,a4,a5⟩:=GZ (P:=P) e r hf h3 h6;refine⟨σ,w',.value<|.pointer<|some ⟨b,0,none⟩,a1,?_,?_,a4,a5⟩
 ·simp[execOp,ho,Instr.alloc,h5,a2]
 ·simp only[VR];exact⟨b,N,a3,rfl⟩
theorem OJ{e:TypeId}{y:Operand}(he:∀x v,ar t x=some v->VR ρ v (ev x))(r:Rel B ρ s.h w)(hf:bL s.nx s1.nx ρ)(h:tg y U7 t s= .ok x s1)(ho:o.op= .box e y):dh P B ρ s s1 w x<|execOp ev o:=by
 unfold tg at h;obtain⟨z,h1,h2⟩:=bd h;obtain⟨n,s2,h3,h4⟩:=M.aL h2;obtain⟨rfl,rfl⟩:=aQ h4;obtain⟨σ,w',b,N,a1,a2,a3,a4,a5⟩:=GZ (P:=P) e r hf h3<|he y z h1;refine⟨σ,w',.value<|.pointer<|some ⟨b,0,none⟩,a1,?_,?_,a4,a5⟩
 ·simp[execOp,ho,Instr.box,a2]
 ·simp only[VR];exact⟨b,N,a3,rfl⟩
theorem NL{ty:TypeId}{a:Operand}(dQ:sM B U7)(he:∀x v,ar t x=some v->VR ρ v (ev x))(fi:aS s)(r:Rel B ρ s.h w)(h:ng P ty a U7 t s= .ok x s1)(ho:o.op= .load ty a):dh P B ρ s s1 w x<|execOp ev o:=by
 unfold ng at h;obtain⟨v,h1,h2⟩:=bd h;unfold loadAt at h2;split at h2
 ·rename_i n q;have hv:=he a _ h1;simp only[VR] at hv;obtain⟨b,sh,h5,h6⟩:=hv;have main:s1.h=s.h/\s1.nx=s.nx/\∃v,(Go.loadVar ty ⟨b,sh+q,none⟩).run P w= .ok v w/\VR ρ x v:=by
   cases hb:Nat.ble top n with
   |true=>rw[hb] at h2;exact M7 dQ fi r h2<|h5.high<|aK.1 hb
   |false=>rw[hb] at h2;exact MF (P:=P) fi r h2 (h5.low fun q=>by rw[aK.2 q] at hb;cases hb)
  obtain⟨a1,a2,u,a3,a4⟩:=main;refine⟨ρ,w,.value u,Ext.refl _ _ _,?_,a4,by rw[a1];exact r,bp.refl _ _⟩;simp[execOp,ho,Instr.loadAt,Instr.sureAddr,h6,a3]
 ·obtain⟨ad,h3,h4⟩:=bd h2;obtain⟨b,N,h5,h6⟩:=(he a v h1).C0 h3;obtain⟨a1,a2,u,a3,a4⟩:=Gy (P:=P) fi r h4 h5;refine⟨ρ,w,.value u,Ext.refl _ _ _,?_,a4,by rw[a1];exact r,bp.refl _ _⟩;simp[execOp,ho,Instr.loadAt,Instr.sureAddr,h6,a3]
theorem M9{ty:TypeId}{a y:Operand}(he:∀x v,ar t x=some v->VR ρ v (ev x))(fi:aS s)(r:Rel B ρ s.h w)(h:o4 P ty a y U7 t s= .ok x s1)(ho:o.op= .store ty a y):dh P B ρ s s1 w x<|execOp ev o:=by unfold o4 at h;obtain⟨v,h1,h2⟩:=bd h;obtain⟨ad,h3,h4⟩:=bd h2;obtain⟨z,h5,h6⟩:=bd h4;obtain⟨u,s2,h7,h8⟩:=M.aL h6;obtain⟨rfl,rfl⟩:=aQ h8;obtain⟨b,N,h9,dU⟩:=(he a v h1).C0 h3;obtain⟨a1,w',a2,a3,a4⟩:=Mr (P:=P) fi r h7 h9<|he y z h5;refine⟨ρ,w',.skip,Ext.refl _ _ _,?_,rfl,a3,a4⟩;simp[execOp,ho,Instr.storeAt,Instr.sureAddr,dU,a2]
theorem Me{y:Operand}(he:∀x v,ar t x=some v->VR ρ v (ev x))(r:Rel B ρ s.h w)(h:rI y U7 t s= .ok x s1)(ho:o.op= .nilCheck y):dh P B ρ s s1 w x<|execOp ev o:=by
 unfold rI at h;obtain⟨v,h1,h2⟩:=bd h;obtain⟨h3,h4⟩:=bP h2;obtain⟨rfl,rfl⟩:=aQ h4;have hv:=he y _ h1;refine⟨ρ,w,.value<|ev y,Ext.refl _ _ _,?_,hv,r,bp.refl _ _⟩;simp only[execOp,ho];generalize ev y=v at hv;cases x<;>(try simp only[VR] at hv)<;>(try (subst hv;first|(simp[notNil] at h3;done)|rfl))
 case ptr a=>
  cases a with
  |none=>simp[notNil] at h3
  |some a=>obtain⟨n,q⟩:=a;simp only[VR] at hv;obtain⟨_,_,_,rfl⟩:=hv;rfl
 case ch n o l=>rcases hv with⟨_,_,_,_,rfl,_⟩|⟨_,_,_,_,rfl,_⟩<;>rfl
 case kz n o=>obtain⟨_,_,_,rfl⟩:=hv;rfl
 case slice a len cap=>
  have:∃p q r,v= .slice p q r:=by
   cases a with
   |none=>cases cap<;>simp only[VR] at hv;exact⟨_,_,_,hv.1⟩
   |some a=>
    obtain⟨n,q⟩:=a;cases cap<;>simp only[VR] at hv
    ·obtain⟨_,_,_,rfl⟩:=hv;exact⟨_,_,_,rfl⟩
    ·obtain⟨_,_,_,_,rfl,_⟩:=hv;exact⟨_,_,_,rfl⟩
    ·obtain⟨_,_,_,_,_,_,rfl⟩:=hv;exact⟨_,_,_,rfl⟩
  obtain⟨_,_,_,rfl⟩:=this;rfl
 case map a=>
  cases a with
  |none=>simp only[VR] at hv;subst hv;rfl
  |some a=>simp only[VR] at hv;obtain⟨_,_,_,rfl⟩:=hv;rfl
 case func fn f c=>obtain⟨_,_,_,rfl,_⟩:=hv;cases fn<;>first|rfl|(simp[notNil] at h3)
 case yield l=>obtain⟨_,_,_,rfl⟩:=hv;rfl
 case iface ty y=>obtain⟨_,rfl,_⟩:=hv;rfl
 case agg l=>obtain⟨_,rfl,_⟩:=hv;rfl
 case tuple l=>obtain⟨_,rfl,_⟩:=hv;rfl
end
end Go.Rn
namespace Go.Rn
open Go.RowKit
theorem av.set{ρ:aj}:∀{x:List AV} {v:List Value} {i:Nat} {a:AV} {b:Value},av ρ x v->VR ρ a b->av ρ (x.set i a) (v.set i b)
 |[],_,_,_,_,h,_=>by simp only[av] at h;subst h;simp[av]
 |y::ys,_,0,_,_,h,k=>by simp only[av] at h;obtain⟨z,zs,rfl,p,q⟩:=h;simp only[List.set_cons_zero,av];exact⟨_,_,rfl,k,q⟩
 |y::ys,_,i+1,_,_,h,k=>by simp only[av] at h;obtain⟨z,zs,rfl,p,q⟩:=h;simp only[List.set_cons_succ,av];exact⟨_,_,rfl,p,q.set k⟩
def xZ:List Value->List Value->Nat->List Value
 |cs,[],_=>cs
 |cs,c::l,off=>xZ (cs.set off c) l<|off+1
theorem Gj{ρ:aj}:∀{l:List AV} {vs:List Value} {cs:List AV} {ds:List Value} {off:Nat},av ρ l vs->av ρ cs ds->av ρ (wZ cs l off) (xZ ds vs off)
 |[],_,_,_,_,h,k=>by simp only[av] at h;subst h;exact k
 |x::l,_,cs,ds,off,h,k=>by simp only[av] at h;obtain⟨y,ys,rfl,p,q⟩:=h;show av ρ (wZ (cs.set off x) l<|off+1)<|xZ (ds.set off y) ys<|off+1;exact Gj (l:=l) q<|k.set p
theorem Hr(off:Nat):∀(l:List Value) (k:Nat) (cs:Array Value),
 ((l.zipIdx k).foldl (fun(cs:Array Value) (x:Value×Nat)=>cs.setIfInBounds (off+x.2) x.1) cs).toList=xZ cs.toList l (off+k)
 |[],k,cs=>rfl
 |c::l,k,cs=>by simp only[List.zipIdx_cons,List.foldl_cons,xZ];rw[Hr off l (k+1) _];simp[Nat.add_assoc]
def oy(ρ:aj):List (Nat×AV)->List (Nat×Value)->Prop
 |[],l=>l=[]
 |x::xs,l=>∃y ys,l=y::ys/\x.1=y.1/\VR ρ x.2 y.2/\oy ρ xs ys
theorem CA{ρ:aj}{ev:Operand->Option AV}{ec:Operand->Value}(he:∀x v,ev x=some v->VR ρ v (ec x)):∀{l:List<|Nat×Operand} {vs:List<|Nat×AV},oc ev l=some vs->oy ρ vs (l.map fun(i,x)=>(i,ec x))
 |[],vs,h=>by simp only[oc] at h;injection h with h;subst h;simp only[oy,List.map_nil]
 |(i,x)::l,vs,h=>by
  simp only[oc] at h;cases e:ev x with
  |none=>rw[e] at h;cases h
  |some y=>
   simp only[e] at h;cases e2:oc ev l with
   |none=>simp only[e2] at h;cases h
   |some r=>
    simp only[e2] at h;injection h with h;subst h
    simp only[oy,List.map_cons];exact⟨_,_,rfl,rfl,he x y e,CA he e2⟩
theorem zZ{ρ:aj}{place:Nat->Option (Nat×Nat)}:∀{ps:List<|Nat×AV} {qs:List<|Nat×Value} {cs l:List AV} {ds:Array Value},oy ρ ps qs->av ρ cs ds.toList->oZ place cs ps=some l->
 ∃es,Instr.fill place ds qs=some es/\av ρ l es.toList
 |[],qs,cs,l,ds,h,k,e=>by
  simp only[oy] at h;subst h;simp only[oZ] at e;injection e with e;subst e
  exact⟨ds,rfl,k⟩
 |(i,v)::ps,qs,cs,l,ds,h,k,e=>by
  simp only[oy] at h;obtain⟨⟨i',v'⟩,ys,rfl,hi,hv,hr⟩:=h;simp only at hi hv;subst hi;simp only[oZ] at e;cases e1:place i with
  |none=>simp only[e1] at e;cases e
  |some p=>
   obtain⟨off,size⟩:=p;simp only[e1] at e;cases e2:(Nat.beq v.cells.length size&&Nat.ble (off+v.cells.length) cs.length) with
   |false=>simp only[e2] at e;cases e
   |true=>
    simp only[e2] at e;obtain⟨a,b⟩:=and_true.1 e2;have a:=cC.1 a;have b:=aK.1 b;have hc:=hv.cells;have l1:=hc.length;have l2:=k.length;simp only[Array.length_toList] at l1 l2;have x9:av ρ (wZ cs v.cells off) (v'.cells.zipIdx.foldl (fun(cs:Array Value) (x:Value×Nat)=>cs.setIfInBounds (off+x.2) x.1) ds).toList:=by rw[←Array.foldl_toList,Array.toList_zipIdx,Hr off _ 0 ds];exact Gj hc k
    obtain⟨es,g1,g2⟩:=zZ hr x9 e;refine⟨es,?_,g2⟩;simp only[Instr.fill,e1];rw[if_neg (by simp;omega)];exact g1
theorem Gz{P:Program}:∀{fs:List Field} {pl:List<|Nat×Nat},sg P fs=some pl->fs.mapM (fun f=>(P.info? f.type).map fun i=>(f.offset,i.size))=some pl
 |[],pl,h=>by simp only[sg] at h;injection h with h;subst h;rfl
 |f::fs,pl,h=>by
  simp only[sg,cd] at h;cases e:P.info? f.type with
  |none=>simp only[e] at h;cases h
  |some i=>
   simp only[e] at h;cases e2:sg P fs with
   |none=>simp only[e2] at h;cases h
   |some r=>
    simp only[e2] at h;injection h with h;subst h
    simp[List.mapM_cons,e,Gz e2]
theorem Na{P:Program}(ρ:aj){t:TypeId}{z:AV}(h:fC P t=some z):∃i v,P.info? t=some i/\i.zero=some v/\VR ρ z v:=by
 unfold fC at h;cases e:P.info? t with
 |none=>rw[e] at h;cases h
 |some i=>
  simp only[e] at h;cases e2:i.zero with
  |none=>simp only[e2] at h;cases h
  |some v=>simp only[e2] at h;exact⟨i,v,rfl,e2,Ce ρ h⟩
section
variable {P:Program} {B:aH} {ρ:aj} {w:World} {s s1:AS} {x:AV} {U7:aJ} {t:Tr AV} {ev:Operand->Value} {o:Oper}
theorem NM{ty:TypeId}{ps:List<|Nat×AV}{qs:List<|Nat×Value}(hp:oy ρ ps qs)(h:build P ty ps=some x):∃cells,P.built ty qs=some cells/\VR ρ x (.agg cells):=by
 unfold build at h;cases ez:fC P ty with
 |none=>simp only[ez] at h;cases h
 |some z=>
  obtain⟨i,v,h1,h2,h3⟩:=Na ρ ez;simp only[ez] at h;cases eu:P.underlying ty with
  |none=>simp only[eu] at h;cases h
  |some d=>
   cases d<;>simp only[eu] at h<;>first|(cases h;done)|skip
   case array n e=>
    cases ek:cd P e with
    |none=>simp only[ek] at h;cases h
    |some k=>
     simp only[ek] at h;cases ef:oZ (fun i=>some (i*k,k)) z.cells ps with
     |none=>simp only[ef] at h;cases h
     |some l=>
      simp only[ef] at h;injection h with h;subst h
      obtain⟨es,g1,g2⟩:=zZ hp h3.cells ef;unfold cd at ek;cases ei:P.info? e with
      |none=>rw[ei] at ek;cases ek
      |some ie=>
       simp only[ei] at ek;injection ek with ek;subst ek
       refine⟨es,?_,by simp only[VR];exact⟨_,rfl,g2⟩⟩;simp only[Program.built,h1,eu,h2,ei];exact g1
   case struct fs=>
    cases ek:sg P fs.toList with
    |none=>simp only[ek] at h;cases h
    |some pl=>
     simp only[ek] at h;cases ef:oZ (fun i=>pl[i]?) z.cells ps with
     |none=>simp only[ef] at h;cases h
     |some l=>
      simp only[ef] at h;injection h with h;subst h
      obtain⟨es,g1,g2⟩:=zZ hp h3.cells ef;refine⟨es,?_,by simp only[VR];exact⟨_,rfl,g2⟩⟩;simp only[Program.built,h1,eu,h2,Gz ek];simpa using g1
theorem Nb{ty:TypeId}{parts:Array<|Nat×Operand}(he:∀x v,ar t x=some v->VR ρ v (ev x))(r:Rel B ρ s.h w)(h:sE P ty parts.toList U7 t s= .ok x s1)(ho:o.op= .build ty parts):dh P B ρ s s1 w x<|execOp ev o:=by
 unfold sE at h;obtain⟨ps,h1,h2⟩:=bd h;obtain⟨h3,rfl⟩:=dt h2;have hp:=CA he h1;obtain⟨cells,g1,g2⟩:=NM (P:=P) hp h3;refine⟨ρ,w,.value<|.agg cells,Ext.refl _ _ _,?_,g2,r,bp.refl _ _⟩;have pK:P.built ty (parts.map fun(i,x)=>(i,ev x)).toList=some cells:=by rw[Array.toList_map];exact g1
 simp only[execOp,ho,Sem.run_bind,run_build w ty _ cells pK,Result.andThen_ok];rfl
theorem B5{z:List AV}{vs:List Value}(h:av ρ z vs):∀n,av ρ (uC n z) (List.replicate n vs).flatten
 |0=>by simp[uC,av]
 |n+1=>by simp only[uC,List.replicate_succ,List.flatten_cons];exact h.append<|B5 h n
theorem G0{vs:List Value}:∀(n i:Nat),i<n*vs.length->(List.replicate n vs).flatten[i]? =vs[i % vs.length]?
 |0,i,h=>by omega
 |n+1,i,h=>by
  rw[List.replicate_succ,List.flatten_cons];by_cases q:i<vs.length
  ·rw[List.getElem?_append_left q,Nat.mod_eq_of_lt q]
  ·have hs:(n+1)*vs.length=n*vs.length+vs.length:=by rw[Nat.succ_mul]
   rw[List.getElem?_append_right (by omega),G0 n _<|by omega];rw[←Nat.mod_eq_sub_mod (by omega)]
theorem G1{zs:Array Value}{n:Nat}:(Array.range<|n*zs.size).map (fun i=>zs[i % zs.size]!)=(List.replicate n zs.toList).flatten.toArray:=by
 apply Array.ext_getElem?;intro i;have hlen:(List.replicate n zs.toList).flatten.length=n*zs.size:=by simp
 by_cases q:i<n*zs.size
 ·have hz:0<zs.size:=by
   rcases Nat.eq_zero_or_pos zs.size with h0|h0
   ·rw[h0] at q;omega
   ·exact h0
  have hm:i % zs.size<zs.size:=Nat.mod_lt _ hz;have hr:(List.replicate n zs.toList).flatten.toArray[i]? =zs.toList[i % zs.toList.length]? :=by rw[List.getElem?_toArray];exact G0 n i (by rw[Array.length_toList];exact q)
  rw[hr];simp[q,getElem!_pos zs (i % zs.size) hm,Array.getElem?_eq_getElem hm]
 ·have hr:(List.replicate n zs.toList).flatten.toArray[i]? =none:=by rw[List.getElem?_toArray];exact List.getElem?_eq_none (by rw[hlen];omega)
  rw[hr,Array.getElem?_eq_none (by simp;omega)]
theorem L7{ty:TypeId}{len:Nat}{ps:List<|Nat×AV}{qs:Array<|Nat×Value}(hp:oy ρ ps qs.toList)(r:Rel B ρ s.h w)(hf:bL s.nx s1.nx ρ)(h:buildSlice P ty len ps s= .ok x s1):
 eK P B ρ s s1 w x (Instr.buildSlice ty len qs):=by
 unfold buildSlice at h;cases eu:P.underlying ty with
 |none=>simp only[eu] at h;cases h
 |some d=>
  cases d<;>simp only[eu] at h<;>first|(cases h;done)|skip
  rename_i e;simp only[bind_eq,PA] at h;obtain⟨k,s2,h1,h2⟩:=M.aL h;obtain⟨pL,rfl⟩:=dt h1;obtain⟨z,s3,h3,h4⟩:=M.aL h2;obtain⟨dY,rfl⟩:=dt h3;obtain⟨u,s4,h5,h6⟩:=M.aL h4;have lJ:(Nat.ble (len*k) 1048576&&Nat.beq z.cells.length k)=true/\s4=s3:=by
   cases hb:(Nat.ble (len*k) 1048576&&Nat.beq z.cells.length k) with
   |false=>rw[hb] at h5;cases h5
   |true=>rw[hb] at h5;cases h5;exact⟨rfl,rfl⟩
  obtain⟨lJ,rfl⟩:=lJ;obtain⟨l,s5,h7,h8⟩:=M.aL h6;obtain⟨tM,rfl⟩:=dt h7;obtain⟨n,s6,h9,dU⟩:=M.aL h8;obtain⟨rfl,rfl⟩:=aQ dU;obtain⟨a,b⟩:=and_true.1 lJ;have a:=aK.1 a;have b:=cC.1 b;obtain⟨vz,g1,g2⟩:=rF (P:=P) (w:=w) ρ dY;have hlen:=g2.cells.length;simp only[Array.length_toList] at hlen;have qw:(Array.range<|len*k).map (fun i=>(if len*k=0 then(#[]:Array Value) else vz.cells)[i % (if len*k=0 then(#[]:Array Value) else vz.cells).size]!)=(List.replicate len vz.cells.toList).flatten.toArray:=by
   by_cases q:len*k=0
   ·rw[q];have:(List.replicate len vz.cells.toList).flatten=[]:=by
     apply List.length_eq_zero_iff.1;have e1:(List.replicate len vz.cells.toList).flatten.length=len*vz.cells.size:=by simp
     rw[e1, ←hlen,b];exact q
    simp[this]
   ·simp only[if_neg q];have:k=vz.cells.size:=by omega
    subst this;exact G1
  obtain⟨es,f1,f2⟩:=zZ (ds:=(List.replicate len vz.cells.toList).flatten.toArray) hp (by simpa using B5 g2.cells len) tM;obtain⟨rfl,n1,σ,e1,e2,e3,e4⟩:=Co (P:=P) e [] r hf h9 f2;refine⟨σ,_,.slice (some ⟨w.heap.size,0,none⟩) len len,e1,?_,?_,e4,(dA.alloc w _).below r.size⟩
  ·have Tn:(es.toList++[]).toArray=es:=by simp
   rw[Tn] at e3 e4 ⊢;have E5:¬(len*k>2 ^ 24):=by omega
   simp only[Instr.buildSlice,Sem.run_bind,aV eu,Result.andThen_ok,dc pL];rw[if_neg E5];by_cases q:len*k=0
   ·rw[if_pos q];simp only[if_pos q] at qw;simp only[Sem.run_bind,Sem.run_pure,Result.andThen_ok,qw,f1,e3]
   ·rw[if_neg q];simp only[if_neg q] at qw;simp only[Sem.run_bind,Sem.run_pure,Result.andThen_ok,g1,qw,f1,e3]
  ·simp only[VR];exact⟨_,_,e2,rfl⟩
theorem L5{ty:TypeId}{len:Nat}{parts:Array<|Nat×Operand}(he:∀x v,ar t x=some v->VR ρ v (ev x))(r:Rel B ρ s.h w)(hf:bL s.nx s1.nx ρ)(h:rE P ty len parts.toList U7 t s= .ok x s1)(ho:o.op= .buildSlice ty len parts):dh P B ρ s s1 w x<|execOp ev o:=by
 unfold rE at h;obtain⟨ps,h1,h2⟩:=bd h;have hp:oy ρ ps (parts.map fun(i,x)=>(i,ev x)).toList:=by rw[Array.toList_map];exact CA he h1
 have:=(L7 (P:=P) hp r hf h2).op;simpa only[execOp,ho] using this
end
end Go.Rn
namespace Go.Rn
open Go.RowKit
section
variable {P:Program} {B:aH} {ρ:aj} {w:World} {s s1:AS} {x:AV} {U7:aJ} {t:Tr AV} {ev:Operand->Value} {o:Oper}
theorem rL{ty:TypeId}{cs:List AV}{ds:Array Value}{off:Nat}(hc:av ρ cs ds.toList)(h:js P ty cs off=some x):∃v,(part ty ds off).run P w= .ok v w/\VR ρ x v:=by
 unfold js at h;cases ea:ly P ty with
 |none=>simp only[ea] at h;cases h
 |some b=>
  simp only[ea] at h;cases b with
  |true=>
   cases ek:cd P ty with
   |none=>simp only[ek] at h;cases h
   |some k=>
    simp only[ek] at h;injection h with h;subst h
    refine⟨.agg<|ds.extract off<|off+k,?_,?_⟩
    ·simp[part,rD ea,dc ek]
    ·simp only[VR];refine⟨_,rfl,?_⟩;have:(ds.extract off<|off+k).toList=(ds.toList.drop off).take k:=by simp[List.extract]
     rw[this];exact(hc.drop off).take k
  |false=>
   obtain⟨v,hv,hr⟩:=hc.get off x h;refine⟨v,?_,hr⟩;have kN:ds[off]? =some v:=by simpa using hv
   simp[part,rD ea,kN]
theorem bytes_beq(a b:ByteArray):(a == b)=(a.toList == b.toList):=beq_toListBytes a b
theorem B6{d:Nat}{eq:TypeId->AV->AV->Option Bool}(he:∀ty a b c v u,eq ty a b=some c->VR ρ a v->VR ρ b u->(Op.equalIn d ty v u).run P w= .ok c w){xs ys:List AV}{cs ds:Array Value}(hx:av ρ xs cs.toList)(hy:av ρ ys ds.toList):∀{fs:List Field} {b:Bool},eqFields P eq xs ys fs=some b->(Op.eqFields d cs ds fs).run P w= .ok b w
 |[],b,h=>by simp only[eqFields] at h;injection h with h;subst h;rfl
 |f::fs,b,h=>by
  simp only[eqFields] at h;cases en:(f.name == "_") with
  |true=>
   simp only[en] at h;have:¬(f.name≠ "_"):=by simpa using en
   rw[Op.eqFields,if_neg this];exact B6 he hx hy h
  |false=>
   simp only[en] at h;have bS:f.name≠ "_" :=by intro e;rw[e] at en;simp at en
   rw[Op.eqFields,if_pos bS];cases e1:js P f.type xs f.offset with
   |none=>simp only[e1] at h;cases h
   |some a=>
    cases e2:js P f.type ys f.offset with
    |none=>simp only[e1,e2] at h;cases h
    |some c=>
     simp only[e1,e2] at h;obtain⟨v,g1,g2⟩:=rL (w:=w) hx e1;obtain⟨u,g3,g4⟩:=rL (w:=w) hy e2;cases e3:eq f.type a c with
     |none=>simp only[e3] at h;cases h
     |some q=>
      simp only[e3] at h;have g5:=he _ _ _ _ _ _ e3 g2 g4;cases q with
      |false=>injection h with h;subst h;simp[g1,g3,g5]
      |true=>simp only[] at h;simp[g1,g3,g5,B6 he hx hy h]
theorem GA{d:Nat}{eq:TypeId->AV->AV->Option Bool}(he:∀ty a b c v u,eq ty a b=some c->VR ρ a v->VR ρ b u->(Op.equalIn d ty v u).run P w= .ok c w){ty:TypeId}{k:Nat}{xs ys:List AV}{cs ds:Array Value}(hx:av ρ xs cs.toList)(hy:av ρ ys ds.toList):∀{n i:Nat} {b:Bool},xg P eq ty k xs ys n i=some b->
 ((forIn (List.range' i n 1) (none,PUnit.unit) (fun j (_:Option Bool×PUnit)=>do
  let a ←part ty cs (j*k);let c ←part ty ds (j*k);let r ←Op.equalIn d ty a c
  if(!r)=true then pure (ForInStep.done (some false,PUnit.unit)) else pure (ForInStep.yield (none,PUnit.unit)))):Sem<|Option Bool×PUnit).run P w= .ok (if b then none else some false,PUnit.unit) w
 |0,i,b,h=>by simp only[xg] at h;injection h with h;subst h;rfl
 |n+1,i,b,h=>by
  simp only[xg] at h;cases e1:js P ty xs (i*k) with
  |none=>simp only[e1] at h;cases h
  |some a=>
   cases e2:js P ty ys (i*k) with
   |none=>simp only[e1,e2] at h;cases h
   |some c=>
    simp only[e1,e2] at h;obtain⟨v,g1,g2⟩:=rL (w:=w) hx e1;obtain⟨u,g3,g4⟩:=rL (w:=w) hy e2;cases e3:eq ty a c with
    |none=>simp only[e3] at h;cases h
    |some q=>
     simp only[e3] at h;have g5:=he _ _ _ _ _ _ e3 g2 g4;rw[List.range'_succ,List.forIn_cons];cases q with
     |false=>injection h with h;subst h;simp[g1,g3,g5]
     |true=>have ih:=GA he hx hy (n:=n) (i:=i+1) h;simp only[Sem.run_bind,g1,Result.andThen_ok,g3,g5,Bool.not_true,Bool.false_eq_true,if_false,Sem.run_pure];exact ih
theorem xj:∀{d:Nat} {ty:TypeId} {a b:AV} {c:Bool} {v u:Value},gS P d ty a b=some c->VR ρ a v->VR ρ b u->(Op.equalIn d ty v u).run P w= .ok c w
 |0,_,_,_,_,_,_,h,_,_=>by simp only[gS] at h;cases h
 |d+1,ty,a,b,c,v,u,h,ha,hb=>by
  simp only[gS] at h;split at h<;>first|(cases h;done)|skip
  ·rename_i p q eu;injection h with h;subst h;simp only[VR] at ha hb;subst ha;subst hb
   simp[Op.equalIn,aV eu]
  ·rename_i k0 k p k' q eu;simp only[VR] at ha hb;subst ha;subst hb;cases hk:decide (k=k') with
   |false=>rw[hk] at h;cases h
   |true=>rw[hk] at h;injection h with h;subst h;simp[Op.equalIn,aV eu,of_decide_eq_true hk]
  ·rename_i p q eu;injection h with h;subst h;simp only[VR] at ha hb;subst ha;subst hb
   simp[Op.equalIn,aV eu]
  ·rename_i e q eu;injection h with h;subst h;simp only[VR] at ha;subst ha
   cases q with
   |none=>simp only[VR] at hb;subst hb;simp[Op.equalIn,aV eu]
   |some q=>obtain⟨n,i⟩:=q;simp only[VR] at hb;obtain⟨_,_,_,rfl⟩:=hb;simp[Op.equalIn,aV eu]
  ·rename_i e q eu;injection h with h;subst h;simp only[VR] at hb;subst hb
   obtain⟨n,i⟩:=q;simp only[VR] at ha;obtain⟨_,_,_,rfl⟩:=ha;simp[Op.equalIn,aV eu]
  ·rename_i ms eu;injection h with h;subst h;simp only[VR] at ha hb;subst ha;subst hb;simp[Op.equalIn,aV eu]
  ·rename_i ms t1 v1 eu;injection h with h;subst h;simp only[VR] at ha hb;subst ha;obtain⟨_,rfl,_⟩:=hb;simp[Op.equalIn,aV eu]
  ·rename_i ms t1 v1 eu;injection h with h;subst h;simp only[VR] at ha hb;subst hb;obtain⟨_,rfl,_⟩:=ha;simp[Op.equalIn,aV eu]
  ·rename_i fs xs ys eu;cases hs:P.stoodInHeld ty with
   |true=>rw[hs] at h;cases h
   |false=>
    rw[hs] at h;simp only[VR] at ha hb;obtain⟨cs,rfl,hx⟩:=ha;obtain⟨ds,rfl,hy⟩:=hb;have hf:P.fieldsOf ty=fs:=by simp[Program.fieldsOf,eu]
    rw[run_equalIn_struct w d ty cs ds (by rw[hf];exact eu) hs,hf];exact B6 (fun ty a b c v u e p q=>xj e p q) hx hy h
  ·rename_i n e xs ys eu;cases ek:cd P e with
   |none=>simp only[ek] at h;cases h
   |some k=>simp only[ek] at h;simp only[VR] at ha hb;obtain⟨cs,rfl,hx⟩:=ha;obtain⟨ds,rfl,hy⟩:=hb;have:=GA (P:=P) (w:=w) (d:=d) (fun ty a b c v u e p q=>xj e p q) (ty:=e) (k:=k) hx hy (n:=n) (i:=0) h;simp only[Op.equalIn,Sem.run_bind,aV eu,Result.andThen_ok,dc ek];rw[Std.Legacy.Range.forIn_eq_forIn_range'];simp only[Std.Legacy.Range.size,Nat.sub_zero,Nat.add_sub_cancel,Nat.div_one];rw[this];cases c<;>rfl
  ·rename_i e l1 c1 q l2 c2 eu;injection h with h;subst h
   have:∃k l,v= .slice none k l:=by cases c1<;>simp only[VR] at ha;exact⟨_,_,ha.1⟩
   obtain⟨_,_,rfl⟩:=this;cases q with
   |none=>
    have:∃k l,u= .slice none k l:=by cases c2<;>simp only[VR] at hb;exact⟨_,_,hb.1⟩
    obtain⟨_,_,rfl⟩:=this;simp[Op.equalIn,aV eu]
   |some q=>
    obtain⟨n,i⟩:=q;have:∃p k l,u= .slice (some p) k l:=by
     cases c2<;>simp only[VR] at hb
     ·obtain⟨_,_,_,rfl⟩:=hb;exact⟨_,_,_,rfl⟩
     ·obtain⟨_,_,_,_,rfl,_⟩:=hb;exact⟨_,_,_,rfl⟩
     ·obtain⟨_,_,_,_,_,_,rfl⟩:=hb;exact⟨_,_,_,rfl⟩
    obtain⟨_,_,_,rfl⟩:=this;simp[Op.equalIn,aV eu]
  ·rename_i e q l1 c1 l2 c2 eu;injection h with h;subst h
   have:∃k l,u= .slice none k l:=by cases c2<;>simp only[VR] at hb;exact⟨_,_,hb.1⟩
   obtain⟨_,_,rfl⟩:=this;obtain⟨n,i⟩:=q;have:∃p k l,v= .slice (some p) k l:=by
    cases c1<;>simp only[VR] at ha
    ·obtain⟨_,_,_,rfl⟩:=ha;exact⟨_,_,_,rfl⟩
    ·obtain⟨_,_,_,_,rfl,_⟩:=ha;exact⟨_,_,_,rfl⟩
    ·obtain⟨_,_,_,_,_,_,rfl⟩:=ha;exact⟨_,_,_,rfl⟩
   obtain⟨_,_,_,rfl⟩:=this;simp[Op.equalIn,aV eu]
  ·rename_i e n o len l2 c2 eu;have:∃k l,u= .slice none k l:=by cases c2<;>simp only[VR] at hb;exact⟨_,_,hb.1⟩
   obtain⟨_,_,rfl⟩:=this;simp only[VR] at ha;have key:∃a k l,v= .slice a k l/\c=a.isNone:=by
    rcases ha with⟨_,rfl,a0,cc,rfl,hz⟩|⟨b,sh,cc,_,rfl,hc⟩
    ·refine⟨a0,_,_,rfl,?_⟩;unfold Eu at h;simp only at h;split at h
     ·rename_i q;injection h with h;subst h;rw[hz.2.1<|Nat.eq_of_beq_eq_true q];rfl
     ·split at h
      ·rename_i q;injection h with h;subst h
       cases a0 with
       |none=>exact absurd rfl<|hz.2.2<|Nat.eq_of_beq_eq_true q
       |some _=>rfl
      ·cases h
    ·refine⟨_,_,_,rfl,?_⟩;unfold Eu at h;split at h
     ·split at h
      ·rename_i q;have q:=Nat.eq_of_beq_eq_true q;exact absurd q (hc<|by omega).2
      ·split at h
       ·injection h with h;subst h;rfl
       ·cases h
     ·injection h with h;subst h;rfl
   obtain⟨a,_,_,rfl,rfl⟩:=key;cases a<;>simp[Op.equalIn,aV eu]
  ·rename_i k0 e0 q eu;injection h with h;subst h;simp only[VR] at ha;subst ha
   cases q with
   |none=>simp only[VR] at hb;subst hb;simp[Op.equalIn,aV eu]
   |some q=>simp only[VR] at hb;obtain⟨_,_,_,rfl⟩:=hb;simp[Op.equalIn,aV eu]
  ·rename_i k0 e0 q eu;injection h with h;subst h;simp only[VR] at ha hb;subst hb;obtain⟨_,_,_,rfl⟩:=ha;simp[Op.equalIn,aV eu]
  ·rename_i p0 r0 v0 eu;injection h with h;subst h;simp only[VR] at ha hb;subst ha;subst hb;simp[Op.equalIn,aV eu]
  ·rename_i p0 r0 v0 f1 c1 c2 eu;injection h with h;subst h;simp only[VR] at ha hb;subst ha;obtain⟨_,_,_,rfl,_⟩:=hb;simp[Op.equalIn,aV eu]
  ·rename_i p0 r0 v0 f1 c1 c2 eu;injection h with h;subst h;simp only[VR] at ha hb;subst hb;obtain⟨_,_,_,rfl,_⟩:=ha;simp[Op.equalIn,aV eu]
theorem NN{op:BinOp}{k:IntKind}{a b:Int}(hs:lX op=false)(h:qA op k a b=some x):∃v,(binOp op 0 (.int k a)<|.int k b).run P w= .ok v w/\VR ρ x v/\∀ty,binOp op ty (.int k a) (.int k b)=binOp op 0 (.int k a) (.int k b):=by
 cases op<;>simp only[qA] at h<;>first
  |(cases h;done)
  |(simp[lX] at hs;done)
  |(injection h with h;subst h;exact⟨_,by simp[binOp,Op.intArith,Op.intBits,Op.intCmp];first|rfl|done,by simp[VR],fun _=>rfl⟩)
  |(cases hd:decide (b=0) with
   |true=>rw[hd] at h;cases h
   |false=>
    rw[hd] at h;injection h with h;subst h
    exact⟨_,by simp[binOp,Op.intDiv,of_decide_eq_false hd];first|rfl|done,by simp[VR],fun _=>rfl⟩)
end
end Go.Rn
namespace Go.Rn
open Go.RowKit
section
variable {P:Program} {B:aH} {ρ:aj} {w:World} {s s1:AS} {x:AV} {U7:aJ} {t:Tr AV} {ev:Operand->Value} {o:Oper}
theorem MG{op:BinOp}{k k':IntKind}{a b:Int}{ty:TypeId}(hs:lX op=true)(h:Al op k a b=some x):∃v,(binOp op ty (.int k a)<|.int k' b).run P w= .ok v w/\VR ρ x v:=by
 unfold Al at h;cases hd:decide (b<0) with
 |true=>rw[hd] at h;cases h
 |false=>
  rw[hd] at h;have hn:=of_decide_eq_false hd;cases op<;>simp only[lX] at hs<;>first|(cases hs;done)|skip
  ·injection h with h;subst h;exact⟨_,by simp[binOp,Op.shift,hn];first|rfl|done,by simp[VR]⟩
  ·injection h with h;subst h;exact⟨_,by simp[binOp,Op.shift,hn];first|rfl|done,by simp[VR]⟩
theorem NO{op:BinOp}{a b:ByteArray}{ty:TypeId}(h:D0 op a b=some x):∃v,(binOp op ty (.string a)<|.string b).run P w= .ok v w/\VR ρ x v:=by
 cases op<;>simp only[D0] at h<;>first
  |(cases h;done)
  |(injection h with h;subst h;exact⟨_,by simp[binOp,Op.stringOp];first|rfl|done,by simp[VR]⟩)
  |skip
 cases hd:Nat.ble (a.size+b.size) room with
 |false=>rw[hd] at h;cases h
 |true=>
  rw[hd] at h;injection h with h;subst h
  have hl:=aK.1 hd;unfold room at hl;refine⟨.string<|a++b,?_,by simp[VR]⟩;have:¬(((a.size+b.size:Nat):Int)>IntKind.i64.max):=by
   have:IntKind.i64.max=9223372036854775807:=by decide
   rw[this];omega
  simp only[binOp,Op.stringOp,if_neg this];rfl
theorem nR{n i len:Nat}{c:aZ}{v:Value}(h:VR ρ (.slice (some (n,i)) len c) v):∃b N q k,ρ n=some (b,N)/\v= .slice (some ⟨b,q,none⟩) len k:=by
 cases c<;>simp only[VR] at h
 ·obtain⟨b,N,e,rfl⟩:=h;exact⟨b,N,_,_,e,rfl⟩
 ·obtain⟨b,N,_,e,rfl,_⟩:=h;exact⟨b,N,_,_,e,rfl⟩
 ·obtain⟨rfl,b,N,_,_,e,rfl⟩:=h;exact⟨b,N,_,_,e,rfl⟩
theorem gy{len:Nat}{c:aZ}{v:Value}(h:VR ρ (.slice none len c) v):len=0/\c= .known 0/\v= .slice none 0 0:=by cases c<;>simp only[VR] at h;obtain⟨rfl,rfl,rfl⟩:=h;exact⟨rfl,rfl,rfl⟩
theorem Jm{d:Nat}{ty:TypeId}{a b:AV}{c:Bool}{v u:Value}(h:gS P (d+1) ty a b=some c)(ha:VR ρ a v)(hb:VR ρ b u)(n1:∀k p k' q,a= .int k p->b= .int k' q->False)(n2:∀p q,a= .str p->b= .str q->False):
 binOp .eql ty v u=(do pure (.bool<|←Op.equal ty v u))/\binOp .neq ty v u=(do pure (.bool<|!(←Op.equal ty v u))):=by
 simp only[gS] at h;split at h<;>first|(cases h;done)|skip
 ·simp only[VR] at ha hb;subst ha;subst hb;exact⟨rfl,rfl⟩
 ·exact(n1 _ _ _ _ rfl rfl).elim
 ·exact(n2 _ _ rfl rfl).elim
 ·rename_i e q eu;simp only[VR] at ha;subst ha;cases q with
  |none=>simp only[VR] at hb;subst hb;exact⟨rfl,rfl⟩
  |some q=>obtain⟨n,i⟩:=q;simp only[VR] at hb;obtain⟨_,_,_,rfl⟩:=hb;exact⟨rfl,rfl⟩
 ·rename_i e q eu;simp only[VR] at hb;subst hb;obtain⟨n,i⟩:=q;simp only[VR] at ha;obtain⟨_,_,_,rfl⟩:=ha;exact⟨rfl,rfl⟩
 ·simp only[VR] at ha hb;subst ha;subst hb;exact⟨rfl,rfl⟩
 ·simp only[VR] at ha hb;subst ha;obtain⟨_,rfl,_⟩:=hb;exact⟨rfl,rfl⟩
 ·simp only[VR] at ha hb;subst hb;obtain⟨_,rfl,_⟩:=ha;exact⟨rfl,rfl⟩
 ·simp only[VR] at ha hb;obtain⟨_,rfl,_⟩:=ha;obtain⟨_,rfl,_⟩:=hb;exact⟨rfl,rfl⟩
 ·simp only[VR] at ha hb;obtain⟨_,rfl,_⟩:=ha;obtain⟨_,rfl,_⟩:=hb;exact⟨rfl,rfl⟩
 ·rename_i e l1 c1 q l2 c2 eu;obtain⟨_,_,rfl⟩:=gy ha;cases q with
  |none=>obtain⟨_,_,rfl⟩:=gy hb;exact⟨rfl,rfl⟩
  |some q=>obtain⟨n,i⟩:=q;obtain⟨_,_,_,_,_,rfl⟩:=nR hb;exact⟨rfl,rfl⟩
 ·rename_i e q l1 c1 l2 c2 eu;obtain⟨_,_,rfl⟩:=gy hb;obtain⟨n,i⟩:=q;obtain⟨_,_,_,_,_,rfl⟩:=nR ha;exact⟨rfl,rfl⟩
 ·obtain⟨_,_,rfl⟩:=gy hb;simp only[VR] at ha;rcases ha with⟨_,_,_,_,rfl,_⟩|⟨_,_,_,_,rfl,_⟩<;>exact⟨rfl,rfl⟩
 ·rename_i k0 e0 q eu;simp only[VR] at ha;subst ha;cases q with
  |none=>simp only[VR] at hb;subst hb;exact⟨rfl,rfl⟩
  |some q=>simp only[VR] at hb;obtain⟨_,_,_,rfl⟩:=hb;exact⟨rfl,rfl⟩
 ·simp only[VR] at ha hb;subst hb;obtain⟨_,_,_,rfl⟩:=ha;exact⟨rfl,rfl⟩
 ·simp only[VR] at ha hb;subst ha;subst hb;exact⟨rfl,rfl⟩
 ·simp only[VR] at ha hb;subst ha;obtain⟨_,_,_,rfl,_⟩:=hb;exact⟨rfl,rfl⟩
 ·simp only[VR] at ha hb;subst hb;obtain⟨_,_,_,rfl,_⟩:=ha;exact⟨rfl,rfl⟩
theorem Nc{op:BinOp}{ty:TypeId}{a b:AV}{v u:Value}(h:kq P op ty a b=some x)(ha:VR ρ a v)(hb:VR ρ b u):∃r,(binOp op ty v u).run P w= .ok r w/\VR ρ x r:=by
 unfold kq at h;split at h
 ·rename_i k p k' q;simp only[VR] at ha hb;subst ha;subst hb;cases hs:lX op with
  |true=>rw[hs] at h;exact MG hs h
  |false=>
   rw[hs] at h;cases hk:decide (k=k') with
   |false=>rw[hk] at h;cases h
   |true=>rw[hk] at h;have:=of_decide_eq_true hk;subst this;obtain⟨r,h1,h2,h3⟩:=NN (P:=P) (w:=w) (ρ:=ρ) hs h;exact⟨r,by rw[h3];exact h1,h2⟩
 ·simp only[VR] at ha hb;subst ha;subst hb;exact NO h
 ·rename_i n1 n2;split at h<;>first|(cases h;done)|skip
  ·cases e:gS P Op.maxDepth ty a b with
   |none=>rw[e] at h;cases h
   |some c=>
    rw[e] at h;injection h with h;subst h
    have e':gS P (9999+1) ty a b=some c:=e;have:=(Jm (P:=P) e' ha hb n1 n2).1;have h2:(Op.equal ty v u).run P w= .ok c w:=xj e ha hb;exact⟨.bool c,by rw[this];simp[h2],by simp[VR]⟩
  ·cases e:gS P Op.maxDepth ty a b with
   |none=>rw[e] at h;cases h
   |some c=>
    rw[e] at h;injection h with h;subst h
    have e':gS P (9999+1) ty a b=some c:=e;have:=(Jm (P:=P) e' ha hb n1 n2).2;have h2:(Op.equal ty v u).run P w= .ok c w:=xj e ha hb;exact⟨.bool !c,by rw[this];simp[h2],by simp[VR]⟩
theorem Jn{a:AV}(ha:VR ρ a .nilIface):a= .nilIface:=by
 cases a<;>(try simp only[VR] at ha)<;>first|rfl|(cases ha;done)|skip
 ·rename_i q;cases q<;>simp only[VR] at ha<;>first|(cases ha;done)|(obtain⟨_,_,_,e⟩:=ha;cases e)
 ·rename_i q l c;cases q with
  |none=>obtain⟨_,_,e⟩:=gy ha;cases e
  |some q=>obtain⟨n,i⟩:=q;obtain⟨_,_,_,_,_,e⟩:=nR ha;cases e
 ·rcases ha with⟨_,_,_,_,e,_⟩|⟨_,_,_,_,e,_⟩<;>cases e
 ·obtain⟨_,_,_,e⟩:=ha;cases e
 ·rename_i q;cases q<;>simp only[VR] at ha<;>first|(cases ha;done)|(obtain⟨_,_,_,e⟩:=ha;cases e)
 ·obtain⟨_,_,_,e,_⟩:=ha;cases e
 ·obtain⟨_,_,_,e⟩:=ha;cases e
 ·obtain⟨_,e,_⟩:=ha;cases e
 ·obtain⟨_,e,_⟩:=ha;cases e
 ·obtain⟨_,e,_⟩:=ha;cases e
theorem Jo{a:AV}{cs:Array Value}(ha:VR ρ a<|.agg cs):∃l,a= .agg l:=by
 cases a<;>(try simp only[VR] at ha)<;>first|exact⟨_,rfl⟩|(cases ha;done)|skip
 ·rename_i q;cases q<;>simp only[VR] at ha<;>first|(cases ha;done)|(obtain⟨_,_,_,e⟩:=ha;cases e)
 ·rename_i q l c;cases q with
  |none=>obtain⟨_,_,e⟩:=gy ha;cases e
  |some q=>obtain⟨n,i⟩:=q;obtain⟨_,_,_,_,_,e⟩:=nR ha;cases e
 ·rcases ha with⟨_,_,_,_,e,_⟩|⟨_,_,_,_,e,_⟩<;>cases e
 ·obtain⟨_,_,_,e⟩:=ha;cases e
 ·rename_i q;cases q<;>simp only[VR] at ha<;>first|(cases ha;done)|(obtain⟨_,_,_,e⟩:=ha;cases e)
 ·obtain⟨_,_,_,e,_⟩:=ha;cases e
 ·obtain⟨_,_,_,e⟩:=ha;cases e
 ·obtain⟨_,e,_⟩:=ha;cases e
 ·obtain⟨_,e,_⟩:=ha;cases e
theorem NP{op:BinOp}{ty:TypeId}{y z:Operand}{a b:AV}{v u:Value}(h:si P op ty y z a b=true)(ha:VR ρ a v)(hb:VR ρ b u):(eqGuard op ty y z v u).run P w= .ok () w:=by
 have key:(op= .eql\/op= .neq)->Cy P ty y z a b=true:=by rintro (rfl|rfl)<;>exact h
 by_cases cM:op= .eql\/op= .neq
 ·have hk:=key cM;by_cases h1:v= .nilIface/\u= .nilIface
  ·obtain⟨rfl,rfl⟩:=h1;have:=Jn ha;subst this;have:=Jn hb;subst this;have hc:(isConst y||isConst z)=true:=hk;rcases cM with rfl|rfl<;>(cases y<;>cases z<;>first|(simp[isConst] at hc;done)|rfl)
  ·by_cases h2:(∃cs,v= .agg cs)/\(∃ds,u= .agg ds)
   ·obtain⟨⟨cs,rfl⟩,⟨ds,rfl⟩⟩:=h2;obtain⟨l,rfl⟩:=Jo ha;obtain⟨m,rfl⟩:=Jo hb;have hq:P.eqGuardType P.depth ty=false:=by simpa[Cy] using hk
    exact run_eqGuard_agg w op ty y z cs ds hq
   ·rcases cM with rfl|rfl<;>(cases v<;>cases u<;>first|rfl|(exact absurd ⟨rfl,rfl⟩ h1)|(exact absurd ⟨⟨_,rfl⟩,⟨_,rfl⟩⟩ h2))
 ·cases op<;>first|rfl|(exact absurd (.inl rfl) cM)|(exact absurd (.inr rfl) cM)
theorem OK{op:BinOp}{ty yt:TypeId}{y z:Operand}(he:∀x v,ar t x=some v->VR ρ v (ev x))(r:Rel B ρ s.h w)(h:gB P op ty y z U7 t s= .ok x s1)(ho:o.op= .binOp op ty y z yt):dh P B ρ s s1 w x<|execOp ev o:=by unfold gB at h;obtain⟨a,h1,h2⟩:=bd h;obtain⟨b,h3,h4⟩:=bd h2;obtain⟨h5,h6⟩:=bP h4;obtain⟨h7,rfl⟩:=dt h6;obtain⟨q,g1,g2⟩:=Nc (P:=P) (w:=w) h7 (he y a h1)<|he z b h3;have g3:=NP (P:=P) (w:=w) h5 (he y a h1)<|he z b h3;refine⟨ρ,w,.value q,Ext.refl _ _ _,?_,g2,r,bp.refl _ _⟩;simp[execOp,ho,g3,g1]
theorem PB{op:UnOp}{ty:TypeId}{y:Operand}(he:∀x v,ar t x=some v->VR ρ v (ev x))(r:Rel B ρ s.h w)(h:tH op y U7 t s= .ok x s1)(ho:o.op= .unOp op ty y):dh P B ρ s s1 w x<|execOp ev o:=by
 unfold tH at h;obtain⟨a,h1,h2⟩:=bd h;obtain⟨h3,rfl⟩:=dt h2;have ha:=he y a h1;have:∃q,(Op.unary op<|ev y).run P w= .ok q w/\VR ρ x q:=by
  unfold JP at h3;split at h3<;>first|(cases h3;done)|skip
  ·rename_i k n;simp only[VR] at ha;rw[ha];injection h3 with h3;subst h3
   exact⟨_,rfl,by simp[VR]⟩
  ·rename_i k n;simp only[VR] at ha;rw[ha];injection h3 with h3;subst h3
   refine⟨_,rfl,?_⟩;cases k<;>simp[VR,IntKind.signed]
  ·rename_i c;simp only[VR] at ha;rw[ha];injection h3 with h3;subst h3
   exact⟨_,rfl,by simp[VR]⟩
 obtain⟨q,g1,g2⟩:=this;refine⟨ρ,w,.value q,Ext.refl _ _ _,?_,g2,r,bp.refl _ _⟩;simp[execOp,ho,g1]
end
end Go.Rn
namespace Go.Rn
open Go.RowKit
section
variable {P:Program} {B:aH} {ρ:aj} {w:World} {s s1:AS} {x:AV} {U7:aJ} {t:Tr AV} {ev:Operand->Value} {o:Oper}
theorem foldl_push(ns:List Int):∀(b:ByteArray),ns.foldl (fun r n=>r.push<|UInt8.ofNat n.toNat) b=⟨(b.data.toList++ns.map (fun n=>UInt8.ofNat n.toNat)).toArray⟩:=by
 induction ns with
 |nil=>intro b;obtain⟨⟨l⟩⟩:=b;simp
 |cons n ns ih=>intro b;rw[List.foldl_cons,ih];obtain⟨⟨l⟩⟩:=b;simp[ByteArray.push]
theorem Cf:∀{l:List AV} {bs:List UInt8} {vs:List Value},bytesOf l=some bs->av ρ l vs->∃ns:List Int,vs=ns.map (Value.int .u8)/\bs=ns.map fun n=>UInt8.ofNat n.toNat
 |[],bs,vs,h,k=>by
  simp only[bytesOf] at h;injection h with h;subst h
  simp only[av] at k;subst k;exact⟨[],rfl,rfl⟩
 |y::l,bs,vs,h,k=>by
  cases y<;>(try simp only[bytesOf] at h)<;>first|(cases h;done)|skip
  rename_i kd n;cases kd<;>simp only[bytesOf] at h<;>first|(cases h;done)|skip
  cases e:bytesOf l with
  |none=>rw[e] at h;cases h
  |some r=>
   simp only[e] at h;injection h with h;subst h
   simp only[av,VR] at k;obtain⟨v,ys,rfl,rfl,k2⟩:=k;obtain⟨ns,rfl,rfl⟩:=Cf e k2;exact⟨n::ns,rfl,rfl⟩
theorem uj{size n m i len:Nat}{c:aZ}(h:c≠ .lost):firstCells size n (.slice (some (m,i)) len c)=dH m i (n*size):=by cases len<;>cases c<;>first|rfl|exact absurd rfl h
theorem Nd{src dst:TypeId}{a:AV}{n:Nat}(h:toText P src dst a n s= .ok x s1):
 ∃e,P.underlying src=some (.slice e)/\P.underlying dst=some .string/\(aB (isByte P e) <| (firstCells 1 n a).bind fun l=>aG (bytesOf l) fun b=>M.pure<|.str ⟨b.toArray⟩) s= .ok x s1:=by
 unfold toText at h;generalize P.underlying src=u at h ⊢;generalize P.underlying dst=v at h ⊢;rcases u with _|d1
 ·cases h
 ·cases d1<;>first|(cases h;done)|skip
  rcases v with _|d2
  ·cases h
  ·cases d2<;>first|(cases h;done)|skip
   exact⟨_,rfl,rfl,h⟩
theorem NR{src dst:TypeId}{y:Operand}{p:Option<|Nat×Nat}{n:Nat}{c:aZ}(ha:VR ρ (.slice p n c)<|ev y)(fi:aS s)(r:Rel B ρ s.h w)(h2:toText P src dst (.slice p n c) n s= .ok x s1)(ho:o.op= .convert src dst y):dh P B ρ s s1 w x<|execOp ev o:=by
 obtain⟨e,e1,e2,h2⟩:=Nd h2;obtain⟨h3,h4⟩:=bP h2;have e3:P.underlying e=some (.int .u8):=by
  unfold isByte at h3;split at h3
  ·assumption
  ·cases h3
 obtain⟨l,s2,h5,h6⟩:=M.aL h4;obtain⟨bs,h7,h8⟩:=bd h6;obtain⟨rfl,rfl⟩:=aQ h8;cases p with
 |none=>
  obtain⟨rfl,rfl,hv⟩:=gy ha;have lJ:(M.pure []:M<|List AV) s= .ok l s1:=h5;obtain⟨rfl,rfl⟩:=aQ lJ;simp only[bytesOf] at h7;injection h7 with h7;subst h7
  refine⟨ρ,w,.value<|.string .empty,Ext.refl _ _ _,?_,?_,r,bp.refl _ _⟩
  ·simp[execOp,ho,hv,run_convert_bytes_string w src dst e none 0 0 e1 e3 e2,Conv.bytesToString]
  ·simp only[VR];rfl
 |some p=>
  obtain⟨m,i⟩:=p;cases c with
  |lost=>
   simp only[VR] at ha;obtain⟨rfl,b,N,q,c,e4,hv⟩:=ha;obtain⟨_,lJ⟩:=bP (show(aB (Nat.beq 0 0) <| (M.pure []:M<|List AV)) s= .ok l s1 from h5);obtain⟨rfl,rfl⟩:=aQ lJ;simp only[bytesOf] at h7;injection h7 with h7;subst h7
   refine⟨ρ,w,.value<|.string .empty,Ext.refl _ _ _,?_,by simp only[VR];rfl,r,bp.refl _ _⟩;have:=run_bytesToString (P:=P) w ⟨b,q,none⟩ 0 c [] (by rfl);simp[execOp,ho,hv,run_convert_bytes_string w src dst e _ 0 c e1 e3 e2,this]
  |known c0=>
   have lJ:dH m i (n*1) s= .ok l s1:=by rw[uj<|by simp] at h5;exact h5
   rw[Nat.mul_one] at lJ;simp only[VR] at ha;obtain⟨b,N,e4,hv⟩:=ha;obtain⟨a1,a2,a3,a4,vs,a5,a6,a7⟩:=nO (P:=P) fi r lJ e4;obtain⟨ns,rfl,rfl⟩:=Cf h7 a6;have:=run_bytesToString (P:=P) w ⟨b,i,none⟩ n c0 ns a5;refine⟨ρ,w,.value<|.string<|ns.foldl (fun r n=>r.push<|UInt8.ofNat n.toNat) ByteArray.empty,Ext.refl _ _ _,?_,?_,by rw[a1];exact r,bp.refl _ _⟩
   ·simp[execOp,ho,hv,run_convert_bytes_string w src dst e _ n c0 e1 e3 e2,this]
   ·simp only[VR];rw[foldl_push];rfl
  |aU lo e5=>
   have lJ:dH m i (n*1) s= .ok l s1:=by rw[uj<|by simp] at h5;exact h5
   rw[Nat.mul_one] at lJ;simp only[VR] at ha;obtain⟨b,N,c0,e4,hv,_⟩:=ha;obtain⟨a1,a2,a3,a4,vs,a5,a6,a7⟩:=nO (P:=P) fi r lJ e4;obtain⟨ns,rfl,rfl⟩:=Cf h7 a6;have:=run_bytesToString (P:=P) w ⟨b,i,none⟩ n c0 ns a5;refine⟨ρ,w,.value<|.string<|ns.foldl (fun r n=>r.push<|UInt8.ofNat n.toNat) ByteArray.empty,Ext.refl _ _ _,?_,?_,by rw[a1];exact r,bp.refl _ _⟩
   ·simp[execOp,ho,hv,run_convert_bytes_string w src dst e _ n c0 e1 e3 e2,this]
   ·simp only[VR];rw[foldl_push];rfl
theorem GB(x:AV):∀(k off:Nat),fy .nil [x] k off=some (List.replicate k x)
 |0,_=>rfl
 |k+1,off=>by
  have:cellAt .nil [x] off=some x:=by unfold cellAt;rw[Tr.get_nil];simp[Nat.mod_one]
  simp only[fy,this,GB x k<|off+1,List.replicate_succ]
theorem G2:∀k:Nat,bytesOf (List.replicate k<|.int .u8 0)=some (List.replicate k 0)
 |0=>rfl
 |k+1=>by simp only[List.replicate_succ,bytesOf,G2 k];rfl
theorem Nf{src dst:TypeId}{a:AV}{n:Nat}(h:toZero P src dst a n s= .ok x s1):
 ∃e,P.underlying src=some (.slice e)/\P.underlying dst=some .string/\isByte P e=true/\zeroOf a n s= .ok x s1:=by
 unfold toZero at h;generalize P.underlying src=u at h ⊢;generalize P.underlying dst=v at h ⊢;rcases u with _|d1
 ·cases h
 ·cases d1<;>first|(cases h;done)|skip
  rcases v with _|d2
  ·cases h
  ·cases d2<;>first|(cases h;done)|skip
   obtain⟨h1,h2⟩:=bP h;exact⟨_,rfl,rfl,h1,h2⟩
theorem MH{o:U}{n:Nat}(h:Am o n=true):∃m,o= .cells m .nil [.int .u8 0]/\Nat.ble n m=true:=by
 unfold Am at h;cases o<;>first|(cases h;done)|skip
 rename_i m t z;cases t<;>first|(cases h;done)|skip
 cases z with
 |nil=>cases h
 |cons y l=>
  cases l with
  |cons _ _=>cases y<;>(try cases h)<;>(rename_i k _;cases k<;>cases h)
  |nil=>
   cases y<;>first|(cases h;done)|skip
   rename_i k v;cases k<;>first|(cases h;done)|skip
   obtain⟨h1,h2⟩:=and_true.1 h;have:v=0:=by simpa using h2
   subst this;exact⟨m,rfl,h1⟩
theorem MI{src dst:TypeId}{p:Option<|Nat×Nat}{n:Nat}{c:aZ}{x:AV}(hn:n≠0)(h:toZero P src dst (.slice p n c) n s= .ok x s1):x= .ph n/\toText P src dst (.slice p n c) n s= .ok (.str ⟨(List.replicate n (0:UInt8)).toArray⟩) s1:=by
 obtain⟨e,e1,e2,h3,h4⟩:=Nf h;cases p with
 |none=>cases h4
 |some p=>
  obtain⟨r0,o0⟩:=p;cases c with
  |known c0=>
   obtain⟨ho,h4⟩:=bP (show(aB (Nat.beq o0 0) <| (a9 r0).bind fun o=>aB (Am o n) <| M.pure<|.ph n) s= .ok x s1 from h4);have iy:=cC.1 ho;subst iy;obtain⟨ob,s1,h5,h6⟩:=M.aL h4;obtain⟨h7,h8⟩:=bP h6;obtain⟨rfl,rfl⟩:=aQ h8;obtain⟨m,rfl,h9⟩:=MH h7;refine⟨rfl,?_⟩;have hr:dH r0 0 n s= .ok (List.replicate n<|.int .u8 0) s1:=by
    obtain⟨k,rfl⟩:∃k,n=k+1:=⟨n - 1,by omega⟩;show((a9 r0).bind fun o=>match o with
     | .cells m t z=>aB (Nat.ble (0+(k+1)) m) <| lift (fy t z (k+1) 0)
     | .ro m t=>aB (Nat.ble (0+(k+1)) m) <| lift (fy t [] (k+1) 0)
     |_=>fail) s=_
    rw[M.bg h5];show aB (Nat.ble (0+(k+1)) m) (lift<|fy .nil [.int .u8 0] (k+1) 0) s1=_;rw[Nat.zero_add,h9,bD,GB];rfl
   have hf:firstCells 1 n (.slice (some (r0,0)) n<|.known c0) s= .ok (List.replicate n<|.int .u8 0) s1:=by rw[uj (by simp),Nat.mul_one];exact hr
   have:toText P src dst (.slice (some (r0,0)) n<|.known c0) n=(firstCells 1 n<|.slice (some (r0,0)) n<|.known c0).bind fun l=>aG (bytesOf l) fun b=>M.pure<|.str ⟨b.toArray⟩:=by unfold toText;simp only[e1,e2,h3,bD]
   rw[this,M.bg hf,G2];rfl
  |_=>cases h4
theorem Ms{src dst:TypeId}{y:Operand}(he:∀x v,ar t x=some v->VR ρ v (ev x))(fi:aS s)(r:Rel B ρ s.h w)(h:rO P src dst y U7 t s= .ok x s1)(ho:o.op= .convert src dst y):dh P B ρ s s1 w x<|execOp ev o:=by
 unfold rO at h;obtain⟨a,h1,h2⟩:=bd h;have ha:=he y a h1;have plain:lift (CY P src dst a) s= .ok x s1->dh P B ρ s s1 w x (execOp ev o):=by
  intro h2;obtain⟨h3,rfl⟩:=dt h2;have:∃q,(convert src dst<|ev y).run P w= .ok q w/\VR ρ x q:=by
   unfold CY at h3;split at h3<;>first|(cases h3;done)|skip
   ·rename_i d k n e1 e2 _;simp only[VR] at ha;rw[ha];injection h3 with h3;subst h3
    refine⟨.int d<|d.wrap n,?_,by simp[VR]⟩;simp[convert,aV e1,aV e2,Conv.intToInt]
   ·rename_i d q e1 e2 _;simp only[VR] at ha;rw[ha];injection h3 with h3;subst h3
    refine⟨.string q,?_,by simp[VR]⟩;cases d<;>simp[convert,aV e1,aV e2]
  obtain⟨q,g1,g2⟩:=this;exact⟨ρ,w,.value q,Ext.refl _ _ _,by simp[execOp,ho,g1],g2,r,bp.refl _ _⟩
 cases a<;>simp only[] at h2<;>first|exact plain h2|skip
 rename_i p n c;have text:∀x:AV,toText P src dst (.slice p n c) n s= .ok x s1->dh P B ρ s s1 w x (execOp ev o):=by intro x h2;exact NR ha fi r h2 ho
 cases hb:Nat.blt 1048576 n with
 |false=>rw[hb] at h2;exact text x h2
 |true=>
  rw[hb] at h2;have hn:n≠0:=by intro e;subst e;cases hb
  obtain⟨rfl,h3⟩:=MI hn h2;obtain⟨σ,w',nv,a1,a2,a3,a4,a5⟩:=text _ h3;refine⟨σ,w',nv,a1,a2,?_,a4,a5⟩;cases nv with
  |value v=>simp only[VR] at a3 ⊢;exact a3
  |skip=>cases a3
  |_=>cases a3
theorem L3{ty:TypeId}{y:Operand}(he:∀x v,ar t x=some v->VR ρ v (ev x))(r:Rel B ρ s.h w)(h:rA P ty y U7 t s= .ok x s1)(ho:o.op= .makeInterface ty y):dh P B ρ s s1 w x<|execOp ev o:=by
 unfold rA at h;obtain⟨a,h1,h2⟩:=bd h;obtain⟨h3,rfl⟩:=dt h2;unfold IG at h3;cases e:P.underlying ty with
 |none=>rw[e] at h3;cases h3
 |some d=>
  rw[e] at h3;refine⟨ρ,w,.value<|.iface ty<|ev y,Ext.refl _ _ _,?_,?_,r,bp.refl _ _⟩
  ·cases d<;>first|(cases h3;done)|simp[execOp,ho,Instr.makeInterface,aV e]
  ·cases d<;>first|(cases h3;done)|(injection h3 with h3;subst h3;simp only[VR];exact⟨_,rfl,he y a h1⟩)
theorem Mf{fn:Fn}{first captured:Array Operand}(he:∀x v,ar t x=some v->VR ρ v (ev x))(r:Rel B ρ s.h w)(h:rJ fn first.toList captured.toList U7 t s= .ok x s1)(ho:o.op= .makeFunc fn first captured):dh P B ρ s s1 w x<|execOp ev o:=by
 unfold rJ at h;obtain⟨h0,h1⟩:=bP h;obtain⟨f,h2,h3⟩:=bd h1;obtain⟨c,h4,h5⟩:=bd h3;obtain⟨rfl,rfl⟩:=aQ h5;refine⟨ρ,w,.value<|.func fn (first.map ev)<|captured.map ev,Ext.refl _ _ _,?_,?_,r,bp.refl _ _⟩
 ·simp[execOp,ho,Instr.makeFunc]
 ·simp only[VR];refine⟨by cases fn<;>first|rfl|(simp[Km] at h0),_,_,rfl,?_,?_⟩
  ·rw[Array.toList_map];exact uF he h2
  ·rw[Array.toList_map];exact uF he h4
theorem IL(r:Rel B ρ s.h w)(hf:bL s.nx s1.nx ρ){n:Nat}(h:cZ (.map [] 0) s= .ok n s1):
 n=s.nx/\Ext s.nx s1.nx ρ (eg ρ n (w.heap.size,0))/\Rel B (eg ρ n (w.heap.size,0)) s1.h {w with heap:=w.heap.push<|.map #[] 0}:=by
 obtain⟨ht,rfl,rfl⟩:=kX h;have eG:ρ s.nx=none:=hf s.nx (Nat.le_refl _) (Nat.lt_succ_self _) (by omega);refine⟨rfl,Ext.bB eG,r.new ht eG rfl ⟨#[],rfl,rfl,rfl⟩⟩
theorem Mu{ty:TypeId}{q:Option Operand}(he:∀x v,ar t x=some v->VR ρ v (ev x))(r:Rel B ρ s.h w)(hf:bL s.nx s1.nx ρ)(h:rP P ty q U7 t s= .ok x s1)(ho:o.op= .makeMap ty q):dh P B ρ s s1 w x<|execOp ev o:=by
 unfold rP at h;obtain⟨u,s2,h1,h2⟩:=M.aL h;obtain⟨n,s3,h3,h4⟩:=M.aL h2;obtain⟨rfl,rfl⟩:=aQ h4;cases q with
 |none=>
  obtain⟨_,rfl⟩:=aQ h1;obtain⟨rfl,e1,e2⟩:=IL r hf h3;refine⟨_,_,.value<|.map<|some w.heap.size,e1,?_,?_,e2,(dA.alloc w _).below r.size⟩
  ·simp[execOp,ho,Instr.makeMap]
  ·simp only[VR];exact⟨_,_,fH _ _ _,rfl⟩
 |some y=>
  obtain⟨v,g1,g2⟩:=bd h1;obtain⟨i,g3,g4⟩:=bd g2;obtain⟨k,_,hv⟩:=(he y v g1).uO g3;have:AM P ty=true/\s2=s:=by
   cases hb:AM P ty with
   |false=>rw[hb] at g4;cases g4
   |true=>rw[hb] at g4;cases g4;exact⟨rfl,rfl⟩
  obtain⟨hm,rfl⟩:=this;obtain⟨rfl,e1,e2⟩:=IL r hf h3;refine⟨_,_,.value<|.map<|some w.heap.size,e1,?_,?_,e2,(dA.alloc w _).below r.size⟩
  ·unfold AM at hm;split at hm
   ·rename_i a b e;simp[execOp,ho,Instr.makeMap,aV e,hv,asInt,asIntOf]
   ·cases hm
  ·simp only[VR];exact⟨_,_,fH _ _ _,rfl⟩
theorem p7{i:Int}{len n:Nat}(h:within i len=some n):i=(n:Int)/\n<len:=by
 unfold within at h;cases i with
 |negSucc k=>cases h
 |ofNat k=>
  cases hb:Nat.blt k len with
  |false=>simp only[hb] at h;cases h
  |true=>
   simp only[hb] at h;injection h with h;subst h
   exact⟨rfl,by rw[←blt_eq];exact hb⟩
theorem Mg{ty:TypeId}{a:AV}{v:Value}{f:Nat}(ha:VR ρ a v)(h:fieldAddr P ty a f=some x):∃q,(Instr.fieldAt ty v f).run P w= .ok q w/\VR ρ x q:=by
 unfold fieldAddr at h;split at h<;>first|(cases h;done)|skip
 rename_i fs e;cases e1:fs[f]? with
 |none=>rw[e1] at h;cases h
 |some fd=>
  simp only[e1] at h;cases e2:cd P fd.type with
  |none=>rw[e2] at h;cases h
  |some k=>
   simp only[e2] at h;cases e3:Nat.beq k 0 with
   |true=>rw[e3] at h;cases h
   |false=>
    simp only[e3] at h;have hk:¬k=0:=by rw[←beq_eq,e3];simp
    split at h<;>first|(cases h;done)|skip
    ·rename_i n i;injection h with h;subst h
     simp only[VR] at ha;obtain⟨b,N,e4,rfl⟩:=ha;refine⟨.pointer<|some ⟨b,i+fd.offset,none⟩,?_,?_⟩
     ·simp[Instr.fieldAt,aV e,e1,Instr.sureAddr,fieldPlace,dc e2,hk,Addr.jk]
     ·simp only[VR];exact⟨b,N,e4,rfl⟩
    ·rename_i n i;injection h with h;subst h
     simp only[VR] at ha;obtain⟨b,sh,e4,rfl⟩:=ha;refine⟨.pointer<|some ⟨b,sh+i+fd.offset,none⟩,?_,?_⟩
     ·simp[Instr.fieldAt,aV e,e1,Instr.sureAddr,fieldPlace,dc e2,hk,Addr.jk]
     ·simp only[VR];exact⟨b,sh,e4,by rw[Nat.add_assoc]⟩
theorem L8{ty:TypeId}{y:Operand}{f:Nat}(he:∀x v,ar t x=some v->VR ρ v (ev x))(r:Rel B ρ s.h w)(h:rH P ty y f U7 t s= .ok x s1)(ho:o.op= .fieldAddr ty y f):dh P B ρ s s1 w x<|execOp ev o:=by unfold rH at h;obtain⟨a,h1,h2⟩:=bd h;obtain⟨h3,rfl⟩:=dt h2;obtain⟨q,g1,g2⟩:=Mg (P:=P) (w:=w) (he y a h1) h3;exact⟨ρ,w,.value q,Ext.refl _ _ _,by simp[execOp,ho,g1],g2,r,bp.refl _ _⟩
theorem Ng{ty:TypeId}{y:Operand}{f:Nat}(he:∀x v,ar t x=some v->VR ρ v (ev x))(r:Rel B ρ s.h w)(h:sH P ty y f U7 t s= .ok x s1)(ho:o.op= .field ty y f):dh P B ρ s s1 w x<|execOp ev o:=by
 unfold sH at h;obtain⟨a,h1,h2⟩:=bd h;obtain⟨h3,rfl⟩:=dt h2;have ha:=he y a h1;unfold IF at h3;split at h3<;>first|(cases h3;done)|skip
 rename_i fs cs e;cases e1:fs[f]? with
 |none=>rw[e1] at h3;cases h3
 |some fd=>simp only[e1] at h3;simp only[VR] at ha;obtain⟨ds,hv,hc⟩:=ha;obtain⟨q,g1,g2⟩:=rL (P:=P) (w:=w) hc h3;exact⟨ρ,w,.value q,Ext.refl _ _ _,by simp[execOp,ho,hv,Instr.field,aV e,e1,asAgg,g1],g2,r,bp.refl _ _⟩
theorem L9{ty:TypeId}{y z:Operand}(he:∀x v,ar t x=some v->VR ρ v (ev x))(r:Rel B ρ s.h w)(h:kV P ty y z U7 t s= .ok x s1)(ho:o.op= .indexAddr ty y z):dh P B ρ s s1 w x<|execOp ev o:=by
 unfold kV at h;obtain⟨a,h1,h2⟩:=bd h;obtain⟨ix,h3,h4⟩:=bd h2;obtain⟨h5,rfl⟩:=dt h4;have ha:=he y a h1;unfold indexAddr at h5;cases ei:intOf ix with
 |none=>rw[ei] at h5;cases h5
 |some i=>
  simp only[ei] at h5;obtain⟨k,_,hi⟩:=(he z ix h3).uO ei;have:∃q,(Instr.indexAt ty (ev y)<|ev z).run P w= .ok q w/\VR ρ x q:=by
   rw[hi];split at h5<;>first|(cases h5;done)|skip
   ·rename_i len e n off e1;split at h5<;>first|(cases h5;done)|skip
    rename_i j m e2 e3;injection h5 with h5;subst h5
    obtain⟨rfl,hj⟩:=p7 e2;simp only[VR] at ha;obtain⟨b,N,e4,hv⟩:=ha;rw[hv];refine⟨.pointer<|some ⟨b,off+j*m,none⟩,?_,by simp only[VR];exact⟨b,N,e4,rfl⟩⟩;have hr:(0:Int)<=(j:Int)/\(j:Int)<(len:Int):=⟨by omega,by omega⟩;simp[Instr.indexAt,asIntOf,aV e1,Instr.sureAddr,hr,dc e3,Addr.jk,hj]
   ·rename_i e n off len cap e1;split at h5<;>first|(cases h5;done)|skip
    rename_i j m e2 e3;injection h5 with h5;subst h5
    obtain⟨rfl,hj⟩:=p7 e2;have hr:(0:Int)<=(j:Int)/\(j:Int)<(len:Int):=⟨by omega,by omega⟩;have fin:∀b N c,ρ n=some (b,N)->ev y= .slice (some ⟨b,off,none⟩) len c->∃q,(Instr.indexAt ty (ev y)<|.int k j).run P w= .ok q w/\VR ρ (.ptr<|some (n,off+j*m)) q:=by intro b N c e4 hv;rw[hv];refine⟨.pointer<|some ⟨b,off+j*m,none⟩,?_,by simp only[VR];exact⟨b,N,e4,rfl⟩⟩;simp[Instr.indexAt,asIntOf,aV e1,hr,dc e3,Addr.jk,hj]
    cases cap with
    |known c=>simp only[VR] at ha;obtain⟨b,N,e4,hv⟩:=ha;exact fin b N c e4 hv
    |aU lo e5=>simp only[VR] at ha;obtain⟨b,N,c,e4,hv,_⟩:=ha;exact fin b N c e4 hv
    |lost=>simp only[VR] at ha;omega
   ·rename_i e n off len e1;split at h5<;>first|(cases h5;done)|skip
    rename_i j m e2 e3;injection h5 with h5;subst h5
    obtain⟨rfl,hj⟩:=p7 e2;have hr:(0:Int)<=(j:Int)/\(j:Int)<(len:Int):=⟨by omega,by omega⟩;simp only[VR] at ha;rcases ha with⟨_,h0,_⟩|⟨b,sh,c,e4,hv,_⟩
    ·omega
    rw[hv];refine⟨.pointer<|some ⟨b,sh+(off+j*m),none⟩,?_,by simp only[VR];exact⟨b,sh,e4,rfl⟩⟩;simp[Instr.indexAt,asIntOf,aV e1,hr,dc e3,Addr.jk,hj,Nat.add_assoc]
  obtain⟨q,g1,g2⟩:=this;exact⟨ρ,w,.value q,Ext.refl _ _ _,by simp[execOp,ho,g1],g2,r,bp.refl _ _⟩
theorem Nh{ty:TypeId}{y z:Operand}(he:∀x v,ar t x=some v->VR ρ v (ev x))(r:Rel B ρ s.h w)(h:sI P ty y z U7 t s= .ok x s1)(ho:o.op= .index ty y z):dh P B ρ s s1 w x<|execOp ev o:=by
 unfold sI at h;obtain⟨a,h1,h2⟩:=bd h;obtain⟨ix,h3,h4⟩:=bd h2;obtain⟨h5,rfl⟩:=dt h4;have ha:=he y a h1;unfold indexOf at h5;cases ei:intOf ix with
 |none=>rw[ei] at h5;cases h5
 |some i=>
  simp only[ei] at h5;obtain⟨k,_,hi⟩:=(he z ix h3).uO ei;have:∃q,(Instr.index ty (ev y)<|ev z).run P w= .ok q w/\VR ρ x q:=by
   rw[hi];split at h5<;>first|(cases h5;done)|skip
   ·rename_i len e cs e1;split at h5<;>first|(cases h5;done)|skip
    rename_i j m e2 e3;obtain⟨rfl,hj⟩:=p7 e2;simp only[VR] at ha;obtain⟨ds,hv,hc⟩:=ha;rw[hv];obtain⟨q,g1,g2⟩:=rL (P:=P) (w:=w) hc h5;have hr:(0:Int)<=(j:Int)/\(j:Int)<(len:Int):=⟨by omega,by omega⟩;refine⟨q,?_,g2⟩;simp[Instr.index,asIntOf,aV e1,hr,dc e3,g1,hj]
   ·rename_i q e1;split at h5<;>first|(cases h5;done)|skip
    rename_i j e2;split at h5<;>first|(cases h5;done)|skip
    rename_i b e3;injection h5 with h5;subst h5
    obtain⟨rfl,hj⟩:=p7 e2;simp only[VR] at ha;rw[ha];refine⟨.int .u8 b.toNat,?_,by simp[VR]⟩;have hb:q[j]? =some b:=by obtain⟨⟨l⟩⟩:=q;have By:l[j]? =some b:=e3;have aW:j<l.length:=(List.getElem?_eq_some_iff.1 By).1;have:(ByteArray.mk ⟨l⟩)[j]? =some ((ByteArray.mk ⟨l⟩)[j]'hj):=getElem?_pos _ _ _;rw[this];have hx:(ByteArray.mk ⟨l⟩)[j]'hj=l[j]'aW:=rfl;rw[hx, ←List.getElem?_eq_getElem aW,By]
    simp[Instr.index,asIntOf,aV e1,hb]
  obtain⟨q,g1,g2⟩:=this;exact⟨ρ,w,.value q,Ext.refl _ _ _,by simp[execOp,ho,g1],g2,r,bp.refl _ _⟩
theorem MJ{xt ty:TypeId}{ok:Bool}{y:Operand}(he:∀x v,ar t x=some v->VR ρ v (ev x))(r:Rel B ρ s.h w)(h:sj P ty ok y U7 t s= .ok x s1)(ho:o.op= .typeAssert y xt ty ok):dh P B ρ s s1 w x<|execOp ev o:=by
 unfold sj at h;obtain⟨a,h1,h2⟩:=bd h;obtain⟨h3,rfl⟩:=dt h2;have ha:=he y a h1;have:∃q,(Instr.typeAssert (ev y) xt ty ok).run P w= .ok q w/\VR ρ x q:=by
  unfold IH at h3;cases e:P.underlying ty with
  |none=>rw[e] at h3;cases h3
  |some d=>
   simp only[e] at h3;have w9:∀ms,d≠ .interface ms:=by intro ms e2;subst e2;cases h3
   have dY:Dg P ty ok a=some x:=by cases d<;>first|exact h3|exact absurd rfl<|w9 _
   clear h3;cases a<;>simp only[Dg] at dY<;>first|(cases dY;done)|skip
   ·rename_i ti z;simp only[VR] at ha;obtain⟨v,hv,hz⟩:=ha;rw[hv];cases hb:Nat.beq ti ty with
    |true=>
     simp only[hb] at dY;have:=cC.1 hb;subst this;cases ok with
     |true=>
      injection dY with dY;subst dY
      refine⟨.tuple #[v,.bool true],?_,by simp only[VR,av];exact⟨_,rfl,_,_,rfl,hz,_,_,rfl,rfl,rfl⟩⟩;cases d<;>first|(exfalso;exact w9 _ rfl)|(simp[Instr.typeAssert,aV e];done)
     |false=>
      injection dY with dY;subst dY
      refine⟨v,?_,hz⟩;cases d<;>first|(exfalso;exact w9 _ rfl)|(simp[Instr.typeAssert,aV e];done)
    |false=>
     simp only[hb] at dY;have bS:¬ti=ty:=by rw[←beq_eq,hb];simp
     cases ok with
     |false=>cases dY
     |true=>
      simp only[] at dY;cases ez:fC P ty with
      |none=>rw[ez] at dY;cases dY
      |some z0=>
       simp only[ez] at dY;injection dY with dY;subst dY
       obtain⟨vz,g1,g2⟩:=rF (P:=P) (w:=w) ρ ez;refine⟨.tuple #[vz,.bool false],?_,by simp only[VR,av];exact⟨_,rfl,_,_,rfl,g2,_,_,rfl,rfl,rfl⟩⟩;cases d<;>first|(exfalso;exact w9 _ rfl)|(simp[Instr.typeAssert,aV e,bS,g1];done)
   ·simp only[VR] at ha;rw[ha];cases ok with
    |false=>cases dY
    |true=>
     simp only[] at dY;cases ez:fC P ty with
     |none=>rw[ez] at dY;cases dY
     |some z0=>
      simp only[ez] at dY;injection dY with dY;subst dY
      obtain⟨vz,g1,g2⟩:=rF (P:=P) (w:=w) ρ ez;refine⟨.tuple #[vz,.bool false],?_,by simp only[VR,av];exact⟨_,rfl,_,_,rfl,g2,_,_,rfl,rfl,rfl⟩⟩;cases d<;>first|(exfalso;exact w9 _ rfl)|(simp[Instr.typeAssert,aV e,g1];done)
 obtain⟨q,g1,g2⟩:=this;exact⟨ρ,w,.value q,Ext.refl _ _ _,by simp[execOp,ho,g1],g2,r,bp.refl _ _⟩
theorem Mv{y:Operand}{i:Nat}(he:∀x v,ar t x=some v->VR ρ v (ev x))(r:Rel B ρ s.h w)(h:rR y i U7 t s= .ok x s1)(ho:o.op= .extract y i):dh P B ρ s s1 w x<|execOp ev o:=by
 unfold rR at h;obtain⟨a,h1,h2⟩:=bd h;obtain⟨h3,rfl⟩:=dt h2;have ha:=he y a h1;unfold partOf at h3;split at h3<;>first|(cases h3;done)|skip
 rename_i l;simp only[VR] at ha;obtain⟨vs,hv,hl⟩:=ha;obtain⟨q,g1,g2⟩:=hl.get i x h3;have pK:vs[i]? =some q:=by simpa using g1
 exact⟨ρ,w,.value q,Ext.refl _ _ _,by simp[execOp,ho,hv,Instr.extract,pK],g2,r,bp.refl _ _⟩
end
end Go.Rn
