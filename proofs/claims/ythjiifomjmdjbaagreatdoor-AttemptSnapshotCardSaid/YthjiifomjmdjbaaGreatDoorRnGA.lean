import Derived.Calls
import Derived.Orders
set_option maxRecDepth 100000
set_option maxHeartbeats 8000000
set_option linter.unusedSimpArgs false
set_option linter.unusedVariables false
namespace Go.Rn
variable {α:Type} {P:Prop}
noncomputable section
inductive Tr (α:Type) where
 |nil:Tr α
 |node (l:Tr α) (v:Option α) (r:Tr α):Tr α
def Tr.vq(p:List Bool):Tr α->Option α:= @List.rec Bool (fun _=>Tr α->Option α) (fun t=> @Tr.rec α (fun _=>Option α) none (fun _ v _ _ _=>v) t) (fun b _ ih t=> @Tr.rec α (fun _=>Option α) none (fun l _ r _ _=>ih<|@Bool.rec (fun _=>Tr α) r l b) t) p
def Tr.mu(v:Option α)(p:List Bool):Tr α->Tr α:=
 @List.rec Bool (fun _=>Tr α->Tr α) (fun t=> @Tr.rec α (fun _=>Tr α) (.node .nil v .nil) (fun l _ r _ _=>.node l v r) t)
  (fun b _ ih t=> @Tr.rec α (fun _=>Tr α)
   (@Bool.rec (fun _=>Tr α) (.node .nil none<|ih .nil) (.node (ih .nil) none .nil) b)
   (fun l x r _ _=> @Bool.rec (fun _=>Tr α) (.node l x<|ih r) (.node (ih l) x r) b) t) p
theorem Tr.HT(p:List Bool):(Tr.nil:Tr α).vq p=none:=by cases p<;>rfl
theorem Tr.HF(l r:Tr α)(v:Option α):(Tr.node l v r).vq []=v:=rfl
theorem Tr.HG(l r:Tr α)(v:Option α)(b:Bool)(p:List Bool):(Tr.node l v r).vq (b::p)=if b=true then l.vq p else r.vq p:=by cases b<;>rfl
theorem Tr.EN(l r:Tr α)(x v:Option α)(b:Bool)(p:List Bool):Tr.mu v (b::p) (Tr.node l x r)=if b=true then .node (Tr.mu v p l) x r else .node l x (Tr.mu v p r):=by cases b<;>rfl
theorem Tr.MH(v:Option α)(b:Bool)(p:List Bool):Tr.mu v (b::p) (Tr.nil:Tr α)=if b=true then .node (Tr.mu v p .nil) none .nil else .node .nil none (Tr.mu v p .nil):=by cases b<;>rfl
theorem Tr.LW(v:Option α):∀(p q:List Bool) (t:Tr α),(Tr.mu v p t).vq q=if q=p then v else t.vq q
 |[],q,t=>by
  cases t with
  |nil=>
   show(Tr.node .nil v .nil).vq q=_;cases q with
   |nil=>simp[Tr.HF]
   |cons b q=>simp[Tr.HG,Tr.HT]
  |node l x r=>
   show(Tr.node l v r).vq q=_;cases q with
   |nil=>simp[Tr.HF]
   |cons b q=>simp[Tr.HG]
 |a::p,q,t=>by
  cases t with
  |nil=>
   rw[Tr.MH];cases q with
   |nil=>cases a<;>simp[Tr.HF,Tr.HT]
   |cons b q=>cases a<;>cases b<;>simp[Tr.HG,Tr.HT,Tr.LW v p q]
  |node l x r=>
   rw[Tr.EN];cases q with
   |nil=>cases a<;>simp[Tr.HF]
   |cons b q=>cases a<;>cases b<;>simp[Tr.HG,Tr.LW v p q]
def path(f:Nat):Nat->List Bool:= @Nat.rec (fun _=>Nat->List Bool) (fun _=>[]) (fun _ ih n=> @Bool.rec (fun _=>List Bool) (List.cons (Nat.beq (Nat.mod n 2) 1)<|ih<|Nat.div (Nat.pred n) 2) []<|Nat.beq n 0) f
theorem MI(a b:α)(c:Bool): @Bool.rec (fun _=>α) a b c=if c=true then b else a:=by cases c<;>rfl
theorem beq_eq(n m:Nat):(Nat.beq n m=true)=(n=m):=by rw[Nat.beq_eq]
theorem HH(f n:Nat):path (f+1) n=if n=0 then[] else(Nat.beq (n % 2) 1)::path f ((n - 1) / 2):=by show @Bool.rec (fun _=>List Bool) (List.cons (Nat.beq (n % 2) 1)<|path f<|(n - 1) / 2) [] (Nat.beq n 0)=_;simp only[MI,beq_eq]
theorem S6:∀(f n m:Nat),n+1<=2 ^ f->m+1<=2 ^ f->path f n=path f m->n=m
 |0,n,m,hn,hm,_=>by simp at hn hm;omega
 |f+1,n,m,hn,hm,h=>by
  rw[HH,HH] at h;have hp:2 ^ (f+1)=2*2 ^ f:=by rw[Nat.pow_succ];omega
  by_cases h0:n=0
  ·by_cases h1:m=0
   ·omega
   ·rw[if_pos h0,if_neg h1] at h;cases h
  ·by_cases h1:m=0
   ·rw[if_neg h0,if_pos h1] at h;cases h
   ·rw[if_neg h0,if_neg h1] at h;injection h with ha hb
    have:=S6 f _ _ (by omega) (by omega) hb;have hq:(n % 2=1)=(m % 2=1):=by rw[←beq_eq, ←beq_eq,ha]
    have dS:n % 2=1↔m % 2=1:=by rw[hq]
    omega
def top:Nat:=549755813888
def Tr.get(t:Tr α)(n:Nat):Option α:=Tr.vq (path 40 n) t
def Tr.put(t:Tr α)(n:Nat)(v:Option α):Tr α:=Tr.mu v (path 40 n) t
theorem Tr.get_nil(n:Nat):(Tr.nil:Tr α).get n=none:=Tr.HT _
theorem Ry:∀(f k n:Nat),n+1<2 ^ k->(path f n).length<k
 |0,k,n,h=>by
  have:k≠0:=by intro e;subst e;simp at h
  show 0<k;omega
 |f+1,k,n,h=>by
  rw[HH];have hk:k≠0:=by intro e;subst e;simp at h
  by_cases h0:n=0
  ·rw[if_pos h0];show 0<k;omega
  ·rw[if_neg h0];obtain⟨j,rfl⟩:∃j,k=j+1:=⟨k - 1,by omega⟩;have hp:2 ^ (j+1)=2*2 ^ j:=by rw[Nat.pow_succ];omega
   have:=Ry f j ((n - 1) / 2) (by omega);simp only[List.length_cons];omega
theorem R8:∀(f k n:Nat),k<=f->2 ^ k<=n+1->k<=(path f n).length
 |_,0,_,_,_=>Nat.zero_le _
 |0,k+1,_,h,_=>by omega
 |f+1,k+1,n,h,hn=>by
  have hp:2 ^ (k+1)=2*2 ^ k:=by rw[Nat.pow_succ];omega
  have h1:1<=2 ^ k:=Nat.one_le_two_pow;rw[HH,if_neg<|by omega];have:=R8 f k ((n - 1) / 2) (by omega) (by omega);simp only[List.length_cons];omega
theorem T0{n m:Nat}(h:n<top)(e:m≠n):path 40 m≠path 40 n:=by
 unfold top at h;by_cases hm:m+1<=2 ^ 40
 ·exact fun k=>e<|S6 40 m n hm (by omega) k
 ·intro k;have h1:=R8 40 40 m (Nat.le_refl _) (by omega);have h2:=Ry 40 40 n (by omega);rw[k] at h1;omega
theorem Tr.lM(t:Tr α)(n m:Nat)(v:Option α)(h:n<top):(t.put n v).get m=if m=n then v else t.get m:=by
 unfold Tr.get Tr.put;rw[Tr.LW];by_cases e:m=n
 ·subst e;simp
 ·simp[e,T0 h e]
theorem Tr.dk(t:Tr α)(n m:Nat)(v:Option α)(h:n<top)(_:m<top):(t.put n v).get m=if m=n then v else t.get m:=Tr.lM t n m v h
def Tr.fill(l:List α):Nat->Tr α->Tr α:= @List.rec α (fun _=>Nat->Tr α->Tr α) (fun _ t=>t) (fun x _ ih i t=>ih (Nat.succ i)<|t.put i<|some x) l
theorem Tr.MJ:∀(l:List α) (i:Nat) (t:Tr α) (m:Nat),i+l.length<=top->m<top->
 (Tr.fill l i t).get m=if i<=m/\m<i+l.length then l[m - i]? else t.get m
 |[],i,t,m,_,_=>by show t.get m=_;simp;intro h1 h2;omega
 |x::l,i,t,m,h,hm=>by
  simp only[List.length_cons] at h;show(Tr.fill l (i+1)<|t.put i<|some x).get m=_;rw[Tr.MJ l _ _ _ (by omega) hm,Tr.dk _ _ _ _ (by omega) hm];simp only[List.length_cons];by_cases h1:i+1<=m/\m<i+1+l.length
  ·have h2:i<=m/\m<i+(l.length+1):=by omega
   rw[if_pos h1,if_pos h2];obtain⟨k,rfl⟩:∃k,m=i+1+k:=⟨m - (i+1),by omega⟩;rw[show i+1+k - (i+1)=k from by omega,show i+1+k - i=k+1 from by omega];simp
  ·rw[if_neg h1];by_cases e:m=i
   ·subst e;simp
   ·have h2:¬(i<=m/\m<i+(l.length+1)):=by omega
    rw[if_neg e,if_neg h2]
theorem Tr.wq:∀(l:List α) (i:Nat) (t:Tr α) (m:Nat),i+l.length<=top->
 (Tr.fill l i t).get m=if i<=m/\m<i+l.length then l[m - i]? else t.get m
 |[],i,t,m,_=>by show t.get m=_;simp;intro h1 h2;omega
 |x::l,i,t,m,h=>by
  simp only[List.length_cons] at h;show(Tr.fill l (i+1)<|t.put i<|some x).get m=_;rw[Tr.wq l _ _ _ (by omega),Tr.lM _ _ _ _<|by omega];simp only[List.length_cons];by_cases h1:i+1<=m/\m<i+1+l.length
  ·have h2:i<=m/\m<i+(l.length+1):=by omega
   rw[if_pos h1,if_pos h2];obtain⟨k,rfl⟩:∃k,m=i+1+k:=⟨m - (i+1),by omega⟩;rw[show i+1+k - (i+1)=k from by omega,show i+1+k - i=k+1 from by omega];simp
  ·rw[if_neg h1];by_cases e:m=i
   ·subst e;simp
   ·have h2:¬(i<=m/\m<i+(l.length+1)):=by omega
    rw[if_neg e,if_neg h2]
end
theorem aj(h:P:=by omega):P:=h
theorem fP(h:P:=by simp[Op.operands]):P:=h
theorem iA(h:P:=by decide):P:=h
theorem iJ(h:P:=by simp):P:=h
theorem D7(h:P:=by rw[←ag.nx];exact h1):P:=h
theorem vJ(h:P:=by simp;omega):P:=h
theorem D8(h:P:=by rw[←hg];exact h2):P:=h
end Go.Rn
namespace Go.Rn
variable {l:List Item} {it:Item}
def loose(b:Array Nat)(i j:Nat):Bool:= !((b.getD i 0).testBit j||(b.getD j 0).testBit i)
def Im(ops:Array Oper):Prop:=∀(j:Nat) (o:Oper) (e:Edge),ops[j]? =some o->e∈o.after->Region.binds .any e=true->e.on<j
def acC(ops:Array Oper):Prop:=∀(i j:Nat) (x y:Oper) (d:Tmp),i≠j->ops[i]? =some x->ops[j]? =some y->x.dst=some d->(d∈y.looksAt ops\/y.dst=some d)->loose (Region.before ops) i j=false
structure JB (ops:Array Oper):Prop where
 Vu:Im ops
 Dj:acC ops
def iu:Code->Prop
 | .seq a b=>iu a/\iu b
 | .cond _ a b=>iu a/\iu b
 | .block _ b=>iu b
 | .loop b=>iu b
 | .scope b=>iu b
 | .region _ ops draw=>draw=true->JB ops
 | .rangeFunc _ _ a b=>iu a/\iu b
 |_=>True
def IW:Item->Prop
 | .code c=>iu c
 | .inLoop b=>iu b
 | .inScope b=>iu b
 |_=>True
def jC(l:List Item):Prop:=∀it∈l,IW it
structure Fu (bL:Option Code) (assign body:Code):Prop where
 bL:∀c,bL=some c->iu c
 assign:iu assign
 body:iu body
theorem jC.cons(h:IW it)(k:jC l):jC<|it::l:=by
 intro x hx;rcases List.mem_cons.1 hx with rfl|hx
 ·exact h
 ·exact k x hx
theorem jC.head(h:jC<|it::l):IW it:=h it List.mem_cons_self
theorem jC.tail(h:jC<|it::l):jC l:=fun x hx=>h x<|List.mem_cons_of_mem _ hx
theorem jC.nil:jC []:=fun _ h=>by cases h
theorem LX{id:Nat}:∀{k k':List Item},exitTo id k=some k'->jC k->jC k'
  |[],_,h,_=>by simp[exitTo] at h
  | it::k,k',h,hk=>by
    cases it<;>simp only[exitTo] at h<;>first
      |exact LX h hk.tail
      | (split at h
         · injection h with h;subst h;exact hk.tail
         · exact LX h hk.tail)
theorem YA{l:Nat}:∀{c r:Code},findLabel c l=some r->iu c->iu r:=by
 intro c;induction c with
 |seq a b BQ BR=>
  intro r h hc;simp only[findLabel] at h;cases e:findLabel a l with
  |some q=>rw[e] at h;injection h with h;subst h;exact⟨BQ e hc.1,hc.2⟩
  |none=>rw[e] at h;exact BR h hc.2
 |label l'=>
  intro r h _;simp only[findLabel] at h;split at h
  ·injection h with h;subst h;trivial
  ·cases h
 |_=>intro r h _;simp[findLabel] at h
theorem LY{l:Nat}:∀{k k':List Item},gotoIn l k=some k'->jC k->jC k'
 |[],_,h,_=>by simp[gotoIn] at h
 |it::k,k',h,hk=>by
  cases it<;>simp only[gotoIn] at h<;>first
   |exact LY h hk.tail
   |skip
  rename_i body;cases e:findLabel body l with
  |some q=>rw[e] at h;injection h with h;subst h;exact .cons (YA e hk.head) hk
  |none=>rw[e] at h;exact LY h hk.tail
end Go.Rn
namespace Go.Rn
variable {n sh b nt:Nat} {w:World} {v:Value} {a:Array Value}
inductive cL where
 |known (c:Nat)
 |ak (lo e:Nat)
 |lost
 deriving Inhabited,DecidableEq
inductive AV where
 |bool (b:Bool)
 |int (k:IntKind) (n:Int)
 |str (s:ByteArray)
 |ptr (a:Option<|Nat×Nat)
 |slice (a:Option<|Nat×Nat) (len:Nat) (cap:cL)
 |U (n o len:Nat)
 |pk (n o:Nat)
 |map (r:Option Nat)
 |func (fn:Fn) (first captured:List AV)
 |yield (l:Nat)
 |nilFunc
 |iface (t:TypeId) (v:AV)
 |nilIface
 |agg (cells:List AV)
 |tuple (vs:List AV)
 |JZ (n:Nat)
 deriving Inhabited
abbrev aw:=Nat->Option (Nat×Nat)
def aw.le(ρ σ:aw):Prop:=∀n x,ρ n=some x->σ n=some x
theorem aw.le_refl(ρ:aw):ρ.le ρ:=fun _ _ h=>h
theorem aw.le_trans{ρ σ τ:aw}(h:ρ.le σ)(k:σ.le τ):ρ.le τ:=fun n x e=>k n x<|h n x e
def T1:Fn->Bool
 | .yield _=>false
 |_=>true
def pr(a b:Nat):Nat:=2 ^ a*(2*b+1)
theorem fI:∀{a b c d:Nat},pr a b=pr c d->a=c/\b=d
 |0,b,0,d,h=>by unfold pr at h;omega
 |0,b,c+1,d,h=>by
  unfold pr at h;have e:2 ^ (c+1)*(2*d+1)=2*(2 ^ c*(2*d+1)):=by rw[Nat.pow_succ,Nat.mul_comm (2 ^ c) 2,Nat.mul_assoc]
  rw[e] at h;omega
 |a+1,b,0,d,h=>by
  unfold pr at h;have e:2 ^ (a+1)*(2*b+1)=2*(2 ^ a*(2*b+1)):=by rw[Nat.pow_succ,Nat.mul_comm (2 ^ a) 2,Nat.mul_assoc]
  rw[e] at h;omega
 |a+1,b,c+1,d,h=>by
  have e1:pr (a+1) b=2*pr a b:=by unfold pr;rw[Nat.pow_succ,Nat.mul_comm (2 ^ a) 2,Nat.mul_assoc]
  have e2:pr (c+1) d=2*pr c d:=by unfold pr;rw[Nat.pow_succ,Nat.mul_comm (2 ^ c) 2,Nat.mul_assoc]
  obtain⟨h1,h2⟩:=fI (a:=a) (b:=b) (c:=c) (d:=d) aj;exact⟨by omega,h2⟩
def hn(n b sh:Nat):Nat:=top+pr n (pr b sh)
theorem fZ(n b sh:Nat):top<=hn n b sh:=Nat.le_add_right _ _
theorem IX{n' b' PL:Nat}(h:hn n b sh=hn n' b' PL):n=n'/\b=b'/\sh=PL:=by unfold hn at h;obtain⟨h1,h2⟩:=fI (show pr n (pr b sh)=pr n' (pr b' PL) by omega);exact⟨h1,fI h2⟩
def qv(ρ:aw)(n b sh:Nat):Prop:=(¬top<=n/\ρ n=some (b,sh))\/(top<=n/\ρ (hn n b sh)≠none)
theorem qv.high{ρ:aw}(h:qv ρ n b sh)(ht:top<=n):ρ (hn n b sh)≠none:=h.elim (fun h=>absurd ht h.1) fun h=>h.2
theorem qv.low{ρ:aw}(h:qv ρ n b sh)(ht:¬top<=n):ρ n=some (b,sh):=h.elim (fun h=>h.2) fun h=>absurd h.1 ht
theorem qv.mono{ρ σ:aw}(h:ρ.le σ):qv ρ n b sh->qv σ n b sh
  | .inl ⟨a,b⟩=>.inl ⟨a,h _ _ b⟩
  | .inr ⟨a,b⟩=>.inr ⟨a,fun e=>b (by
    cases q:ρ (hn n _ sh) with
    |none=>rfl
    |some x=>rw[h _ _ q] at e;cases e)⟩
def zOk(n:Nat)(a:Option Addr)(c:Nat):Prop:=(a=none->c=0)/\(n=top->a=none)/\(n=top+1->a≠none)
mutual
def VR(ρ:aw):AV->Value->Prop
 | .bool b,v=>v= .bool b
 | .int k n,v=>v= .int k n
 | .str s,v=>v= .string s
 | .ptr none,v=>v= .pointer none
 | .ptr (some (n,o)),v=>∃b N,ρ n=some (b,N)/\v= .pointer (some ⟨b,o,none⟩)
 | .slice none len (.known c),v=>v= .slice none len c/\len=0/\c=0
 | .slice none _ (.ak _ _),_=>False
 | .slice none _ .lost,_=>False
 | .slice (some (n,_)) len .lost,v=>len=0/\∃b N o c,ρ n=some (b,N)/\v= .slice (some ⟨b,o,none⟩) 0 c
 | .slice (some (n,o)) len (.known c),v=>∃b N,ρ n=some (b,N)/\v= .slice (some ⟨b,o,none⟩) len c
 | .slice (some (n,o)) len (.ak lo e),v=>∃b N c,ρ n=some (b,N)/\v= .slice (some ⟨b,o,none⟩) len c/\lo<=c/\len<=c/\o+c*e<=N
 | .U n o len,v=>(top<=n/\len=0/\∃a c,v= .slice a 0 c/\zOk n a c)\/∃b sh c,qv ρ n b sh/\v= .slice (some ⟨b,sh+o,none⟩) len c/\(top<=n->len<=c/\n≠top)
 | .pk n o,v=>∃b sh,qv ρ n b sh/\v= .pointer (some ⟨b,sh+o,none⟩)
 | .map none,v=>v= .map none
 | .map (some n),v=>∃b N,ρ n=some (b,N)/\v= .map (some b)
 | .func fn first captured,v=>T1 fn=true/\∃f c,v= .func fn f c/\ay ρ first f.toList/\ay ρ captured c.toList
 | .yield l,v=>∃b N,ρ l=some (b,N)/\v= .func (.yield b) #[] #[]
 | .nilFunc,v=>v= .nilFunc
 | .iface t x,v=>∃y,v= .iface t y/\VR ρ x y
 | .nilIface,v=>v= .nilIface
 | .agg l,v=>∃a,v= .agg a/\ay ρ l a.toList
 | .tuple l,v=>∃a,v= .tuple a/\ay ρ l a.toList
 | .JZ n,v=>v= .string ⟨(List.replicate n (0:UInt8)).toArray⟩
def ay(ρ:aw):List AV->List Value->Prop
 |[],l=>l=[]
 |x::xs,l=>∃y ys,l=y::ys/\VR ρ x y/\ay ρ xs ys
end
mutual
theorem VR.mono{ρ σ:aw}(h:ρ.le σ):∀(x:AV) (v:Value),VR ρ x v->VR σ x v
 | .bool _,_,k=>by simpa only[VR] using k
 | .int _ _,_,k=>by simpa only[VR] using k
 | .str _,_,k=>by simpa only[VR] using k
 | .JZ _,_,k=>by simpa only[VR] using k
 | .ptr none,_,k=>by simpa only[VR] using k
 | .ptr (some (n,o)),_,k=>by simp only[VR] at k ⊢;obtain⟨b,N,e,r⟩:=k;exact⟨b,N,h _ _ e,r⟩
 | .slice none len (.known c),_,k=>by simpa only[VR] using k
 | .slice none _ (.ak _ _),_,k=>by simp only[VR] at k
 | .slice none _ .lost,_,k=>by simp only[VR] at k
 | .slice (some (n,o)) len .lost,_,k=>by simp only[VR] at k ⊢;obtain⟨l,b,N,p,c,e,r⟩:=k;exact⟨l,b,N,p,c,h _ _ e,r⟩
 | .slice (some (n,o)) len (.known c),_,k=>by simp only[VR] at k ⊢;obtain⟨b,N,e,r⟩:=k;exact⟨b,N,h _ _ e,r⟩
 | .slice (some (n,o)) len (.ak lo e),_,k=>by simp only[VR] at k ⊢;obtain⟨b,N,c,e,r⟩:=k;exact⟨b,N,c,h _ _ e,r⟩
 | .U n o len,_,k=>by simp only[VR] at k ⊢;rcases k with k|⟨b,sh,c,e,r⟩;exact .inl k;exact .inr ⟨b,sh,c,e.mono h,r⟩
 | .pk n o,_,k=>by simp only[VR] at k ⊢;obtain⟨b,sh,e,r⟩:=k;exact⟨b,sh,e.mono h,r⟩
 | .map none,_,k=>by simpa only[VR] using k
 | .map (some n),_,k=>by simp only[VR] at k ⊢;obtain⟨b,N,e,r⟩:=k;exact⟨b,N,h _ _ e,r⟩
 | .func fn first captured,_,k=>by simp only[VR] at k ⊢;obtain⟨p,f,c,e,r,s⟩:=k;exact⟨p,f,c,e,ay.mono h _ _ r,ay.mono h _ _ s⟩
 | .yield l,_,k=>by simp only[VR] at k ⊢;obtain⟨b,N,e,r⟩:=k;exact⟨b,N,h _ _ e,r⟩
 | .nilFunc,_,k=>by simpa only[VR] using k
 | .iface t x,_,k=>by simp only[VR] at k ⊢;obtain⟨y,e,r⟩:=k;exact⟨y,e,VR.mono h _ _ r⟩
 | .nilIface,_,k=>by simpa only[VR] using k
 | .agg l,_,k=>by simp only[VR] at k ⊢;obtain⟨a,e,r⟩:=k;exact⟨a,e,ay.mono h _ _ r⟩
 | .tuple l,_,k=>by simp only[VR] at k ⊢;obtain⟨a,e,r⟩:=k;exact⟨a,e,ay.mono h _ _ r⟩
theorem ay.mono{ρ σ:aw}(h:ρ.le σ):∀(x:List AV) (v:List Value),ay ρ x v->ay σ x v
 |[],_,k=>by simpa only[ay] using k
 |x::xs,_,k=>by simp only[ay] at k ⊢;obtain⟨y,ys,e,r,s⟩:=k;exact⟨y,ys,e,VR.mono h _ _ r,ay.mono h _ _ s⟩
end
theorem ay.length{ρ:aw}:∀{x:List AV} {v:List Value},ay ρ x v->x.length=v.length
 |[],_,k=>by simp only[ay] at k;subst k;rfl
 |x::xs,_,k=>by simp only[ay] at k;obtain⟨y,ys,rfl,_,s⟩:=k;simp[ay.length s]
theorem ay.get{ρ:aw}:∀{x:List AV} {v:List Value},ay ρ x v->∀(i:Nat) (a:AV),x[i]? =some a->∃b,v[i]? =some b/\VR ρ a b
 |[],_,_,_,_,h=>by simp at h
 |x::xs,_,k,i,a,h=>by
  simp only[ay] at k;obtain⟨y,ys,rfl,r,s⟩:=k;cases i with
  |zero=>simp at h;subst h;exact⟨y,rfl,r⟩
  |succ i=>simp at h;obtain⟨b,hb,hr⟩:=ay.get s i a h;exact⟨b,by simpa using hb,hr⟩
theorem ay.append{ρ:aw}:∀{x:List AV} {v:List Value} {x':List AV} {v':List Value},ay ρ x v->ay ρ x' v'->ay ρ (x++x') (v++v')
 |[],_,_,_,k,h=>by simp only[ay] at k;subst k;simpa using h
 |x::xs,_,_,_,k,h=>by simp only[ay] at k;obtain⟨y,ys,rfl,r,s⟩:=k;simp only[List.cons_append,ay];exact⟨y,_,rfl,r,ay.append s h⟩
theorem ay.UW{ρ:aw}:∀(x:List AV) (v:List Value),x.length=v.length->(∀(i:Nat) (a:AV) (b:Value),x[i]? =some a->v[i]? =some b->VR ρ a b)->ay ρ x v
 |[],[],_,_=>by simp only[ay]
 |[],_::_,h,_=>by simp at h
 |_::_,[],h,_=>by simp at h
 |x::xs,y::ys,h,k=>by simp only[ay];exact⟨y,ys,rfl,k 0 x y rfl rfl,ay.UW xs ys (by simpa using h) fun i a b ha hb=>k (i+1) a b (by simpa using ha)<|by simpa using hb⟩
theorem ay.take{ρ:aw}:∀(n:Nat) {x:List AV} {v:List Value},ay ρ x v->ay ρ (x.take n) (v.take n)
 |0,_,_,_=>by simp[ay]
 |n+1,[],_,k=>by simp only[ay] at k;subst k;simp[ay]
 |n+1,x::xs,_,k=>by simp only[ay] at k;obtain⟨y,ys,rfl,r,s⟩:=k;simp only[List.take_succ_cons,ay];exact⟨y,_,rfl,r,ay.take n s⟩
theorem ay.drop{ρ:aw}:∀(n:Nat) {x:List AV} {v:List Value},ay ρ x v->ay ρ (x.drop n) (v.drop n)
 |0,_,_,k=>by simpa using k
 |n+1,[],_,k=>by simp only[ay] at k;subst k;simp[ay]
 |n+1,x::xs,_,k=>by simp only[ay] at k;obtain⟨y,ys,rfl,r,s⟩:=k;simpa using ay.drop n s
def p8:AV:=.tuple []
theorem VR.undef(ρ:aw):VR ρ p8 Go.undef:=by simp only[p8,Go.undef,VR,ay];exact⟨#[],rfl,rfl⟩
def AV.cells:AV->List AV
 | .agg l=>l
 |v=>[v]
theorem VR.cells{ρ:aw}{x:AV}(h:VR ρ x v):ay ρ x.cells v.cells.toList:=by
 cases x<;>(try (simp only[VR] at h;subst h;simp only[AV.cells,Value.cells,ay,VR];exact⟨_,_,rfl,rfl,rfl⟩))
 case ptr a=>
  cases a with
  |none=>simp only[VR] at h;subst h;simp only[AV.cells,Value.cells,ay,VR];exact⟨_,_,rfl,rfl,rfl⟩
  |some a=>obtain⟨n,o⟩:=a;have h':=h;simp only[VR] at h';obtain⟨b,N,_,rfl⟩:=h';simp only[AV.cells,Value.cells,ay];exact⟨_,_,rfl,h,rfl⟩
 case slice a len cap=>
  have:∃p q r,v= .slice p q r:=by
   cases a with
   |none=>cases cap<;>simp only[VR] at h;exact⟨_,_,_,h.1⟩
   |some a=>
    obtain⟨n,o⟩:=a;cases cap<;>simp only[VR] at h
    ·obtain⟨b,N,_,rfl⟩:=h;exact⟨_,_,_,rfl⟩
    ·obtain⟨b,N,c,_,rfl,_⟩:=h;exact⟨_,_,_,rfl⟩
    ·obtain⟨_,b,N,p,c,_,rfl⟩:=h;exact⟨_,_,_,rfl⟩
  obtain⟨p,q,r,rfl⟩:=this;simp only[AV.cells,Value.cells,ay];exact⟨_,_,rfl,h,rfl⟩
 case U n o len=>
  have h':=h;simp only[VR] at h';rcases h' with⟨_,_,_,_,rfl,_⟩|⟨b,sh,c,_,rfl,_⟩<;>
  (simp only[AV.cells,Value.cells,ay];exact⟨_,_,rfl,h,rfl⟩)
 case pk n o=>have h':=h;simp only[VR] at h';obtain⟨b,sh,_,rfl⟩:=h';simp only[AV.cells,Value.cells,ay];exact⟨_,_,rfl,h,rfl⟩
 case map a=>
  cases a with
  |none=>simp only[VR] at h;subst h;simp only[AV.cells,Value.cells,ay,VR];exact⟨_,_,rfl,rfl,rfl⟩
  |some a=>have h':=h;simp only[VR] at h';obtain⟨b,N,_,rfl⟩:=h';simp only[AV.cells,Value.cells,ay];exact⟨_,_,rfl,h,rfl⟩
 case func fn f c=>have h':=h;simp only[VR] at h';obtain⟨_,_,_,rfl,_⟩:=h';simp only[AV.cells,Value.cells,ay];exact⟨_,_,rfl,h,rfl⟩
 case yield l=>have h':=h;simp only[VR] at h';obtain⟨_,_,_,rfl⟩:=h';simp only[AV.cells,Value.cells,ay];exact⟨_,_,rfl,h,rfl⟩
 case iface t x=>have h':=h;simp only[VR] at h';obtain⟨_,rfl,_⟩:=h';simp only[AV.cells,Value.cells,ay];exact⟨_,_,rfl,h,rfl⟩
 case agg l=>simp only[VR] at h;obtain⟨a,rfl,k⟩:=h;simpa only[AV.cells,Value.cells] using k
 case tuple l=>have h':=h;simp only[VR] at h';obtain⟨_,rfl,_⟩:=h';simp only[AV.cells,Value.cells,ay];exact⟨_,_,rfl,h,rfl⟩
def AV.cj:AV->Bool
 | .agg _| .tuple _=>false
 |_=>true
theorem VR.cj{ρ:aw}{x:AV}(h:VR ρ x v)(hx:x.cj=true):∀cs,v≠ .agg cs/\v≠ .tuple cs:=by
 intro cs;cases x<;>(try (simp only[VR] at h;subst h;simp;done))<;>(try (simp[AV.cj] at hx;done))
 case ptr a=>
  cases a with
  |none=>simp only[VR] at h;subst h;simp
  |some a=>obtain⟨n,o⟩:=a;simp only[VR] at h;obtain⟨_,_,_,rfl⟩:=h;simp
 case slice a len cap=>
  cases a with
  |none=>cases cap<;>simp only[VR] at h;rw[h.1];simp
  |some a=>
   obtain⟨n,o⟩:=a;cases cap<;>simp only[VR] at h
   ·obtain⟨_,_,_,rfl⟩:=h;simp
   ·obtain⟨_,_,_,_,rfl,_⟩:=h;simp
   ·obtain⟨_,_,_,_,_,_,rfl⟩:=h;simp
 case U n o len=>simp only[VR] at h;rcases h with⟨_,_,_,_,rfl,_⟩|⟨_,_,_,_,rfl,_⟩<;>simp
 case pk n o=>simp only[VR] at h;obtain⟨_,_,_,rfl⟩:=h;simp
 case map a=>
  cases a with
  |none=>simp only[VR] at h;subst h;simp
  |some a=>simp only[VR] at h;obtain⟨_,_,_,rfl⟩:=h;simp
 case func fn f c=>simp only[VR] at h;obtain⟨_,_,_,rfl,_⟩:=h;simp
 case yield l=>simp only[VR] at h;obtain⟨_,_,_,rfl⟩:=h;simp
 case iface t x=>simp only[VR] at h;obtain⟨_,rfl,_⟩:=h;simp
inductive ae where
 |cells (n:Nat) (t:Tr AV) (z:List AV)
 |map (es:List<|AV×AV) (aO:Nat)
 |jQ (es:List<|AV×AV)
 |loop (st:LoopState) (bL:Option Code) (fn:FuncId) (tmps:Tr AV) (nt:Nat) (params:List Tmp) (assign body:Code) (defers:Nat)
 |defs
 |ro (n:Nat) (t:Tr AV)
 |th (n:Nat) (t:Tr AV)
 |Fk (s:ByteArray) (pos:Nat)
 |iter (m:Nat) (es:List<|AV×AV) (exact:Bool) (left:List<|AV×AV) (cur:Option<|AV×AV)
 |kB
 |tok (k:Nat) (v:AV)
 deriving Inhabited
noncomputable def cellAt(t:Tr AV)(z:List AV)(i:Nat):Option AV:=
 match t.get i with
 |some v=>some v
 |none=>z[i % z.length]?
def ae.di:ae->Bool
 | .ro _ _=>true
 | .th _ _=>true
 | .tok _ _=>true
 |_=>false
def ae.mK:ae->Bool
 | .ro _ _=>true
 | .th _ _=>true
 |_=>false
theorem ae.j9:∀{o:ae},o.mK=true->o.di=true
 | .ro _ _,_=>rfl
 | .th _ _,_=>rfl
 | .cells _ _ _,h=>by cases h
 | .map _ _,h=>by cases h
 | .jQ _,h=>by cases h
 | .loop _ _ _ _ _ _ _ _ _,h=>by cases h
 | .defs,h=>by cases h
 | .Fk _ _,h=>by cases h
 | .iter _ _ _ _ _,h=>by cases h
 | .kB,h=>by cases h
 | .tok _ _,h=>by cases h
def TR(ρ:aw)(nt:Nat)(t:Tr AV)(a:Array Value):Prop:=a.size=nt/\∀i x,t.get i=some x->VR ρ x (a.getD i Go.undef)
theorem TR.mono{ρ σ:aw}(h:ρ.le σ){t:Tr AV}(k:TR ρ nt t a):TR σ nt t a:=⟨k.1,fun i x e=>VR.mono h _ _<|k.2 i x e⟩
theorem TR.set{ρ:aw}{t:Tr AV}(k:TR ρ nt t a){d:Nat}{x:AV}(hd:d<nt)(ht:nt<=top)(h:VR ρ x v):
 TR ρ nt (t.put d<|some x) (a.setIfInBounds d v):=by
 refine⟨by simp[k.1],fun i y hy=>?_⟩;rw[Tr.lM _ _ _ _ aj] at hy;by_cases e:i=d
 ·subst e;have:(a.setIfInBounds i v).getD i Go.undef=v:=by rw[Array.getD_eq_getD_getElem?,Array.getElem?_setIfInBounds_self_of_lt (by rw[k.1];exact hd)];rfl
  rw[if_pos rfl] at hy;injection hy with hy;subst hy
  rw[this];exact h
 ·have:(a.setIfInBounds d v).getD i Go.undef=a.getD i Go.undef:=by rw[Array.getD_eq_getD_getElem?,Array.getElem?_setIfInBounds_ne aj, ←Array.getD_eq_getD_getElem?]
  rw[if_neg e] at hy;rw[this];exact k.2 i y hy
def kI(ρ:aw):List (AV×AV)->List MapEntry->Nat->Prop
 |[],l,_=>l=[]
 |x::xs,l,i=>∃e es,l=e::es/\VR ρ x.1 e.key/\VR ρ x.2 e.val/\e.born=i/\kI ρ xs es (i+1)
theorem kI.mono{ρ σ:aw}(h:ρ.le σ):∀(x:List<|AV×AV) (l:List MapEntry) (i:Nat),kI ρ x l i->kI σ x l i
 |[],_,_,k=>k
 |x::xs,_,i,k=>by obtain⟨e,es,r,a,b,c,d⟩:=k;exact⟨e,es,r,VR.mono h _ _ a,VR.mono h _ _ b,c,kI.mono h xs es _ d⟩
def dT(ρ:aw):List (AV×AV)->List MapEntry->Prop
 |[],l=>l=[]
 |x::xs,l=>∃e es,l=e::es/\VR ρ x.1 e.key/\VR ρ x.2 e.val/\dT ρ xs es
theorem dT.mono{ρ σ:aw}(h:ρ.le σ):∀(x:List<|AV×AV) (l:List MapEntry),dT ρ x l->dT σ x l
 |[],_,k=>k
 |x::xs,_,k=>by obtain⟨e,es,r,a,b,d⟩:=k;exact⟨e,es,r,VR.mono h _ _ a,VR.mono h _ _ b,dT.mono h xs es d⟩
theorem kI.eqs{ρ:aw}:∀{x:List<|AV×AV} {l:List MapEntry} {i:Nat},kI ρ x l i->dT ρ x l
 |[],_,_,k=>k
 |_::_,_,_,k=>by obtain⟨e,es,r,a,b,_,d⟩:=k;exact⟨e,es,r,a,b,d.eqs⟩
def vK(ρ:aw)(es:List<|AV×AV)(l:List MapEntry):Prop:=∃l',l.Perm l'/\dT ρ es l'
theorem vK.mono{ρ σ:aw}(h:ρ.le σ){x:List<|AV×AV}{l:List MapEntry}(k:vK ρ x l):vK σ x l:=by obtain⟨l',p,n⟩:=k;exact⟨l',p,n.mono h⟩
def sameKey:AV->AV->Option Bool
 | .int k a,.int k' b=>match decide (k=k') with
  |true=>some<|a == b
  |false=>none
 | .str a,.str b=>some<|a == b
 | .bool a,.bool b=>some<|a == b
 |_,_=>none
def lp(es:List<|AV×AV):Prop:=es.Pairwise fun a b=>sameKey a.1 b.1=some false/\sameKey b.1 a.1=some false
def sL(l:List MapEntry)(aO:Nat):Prop:=(l.map (·.born)).Nodup/\∀e∈l,e.born<aO
def OR(ρ:aw)(N:Nat):ae->Obj->Prop
 | .cells n t z,o=>∃c e,o= .cells c e (0,0)/\c.size=N/\n<=N/\∀i,i<n->∃x v,cellAt t z i=some x/\x.cj=true/\c[i]? =some v/\VR ρ x v
 | .map es aO,o=>∃l,o= .map l aO/\aO=es.length/\kI ρ es l.toList 0
 | .jQ es,o=>∃l aO,o= .map l aO/\lp es/\sL l.toList aO/\vK ρ es l.toList
 | .loop st bL fn tmps nt params assign body defers,o=>∃a b M,o= .loop {state:=st,pending:=bL,fn,tmps:=a,params:=params.toArray,assign,body,defers:=b}/\TR ρ nt tmps a/\nt<=top/\ρ defers=some (b,M)/\Fu bL assign body
 | .defs,o=>o= .deferred (some [])
 | .ro n t,o=>∃c e fr,o= .cells c e fr/\c.size=N/\n=N/\∀i,i<n->∃x v,t.get i=some x/\x.cj=true/\c[i]? =some v/\VR ρ x v
 | .th n t,o=>∃c e fr,o= .cells c e fr/\∀i,i<n->∃x v,t.get i=some x/\x.cj=true/\c[N+i]? =some v/\VR ρ x v
 | .Fk s pos,o=>o= .stringIter s pos
 | .iter m _ _ _ _,o=>∃b M c s,ρ m=some (b,M)/\o= .mapIter (some b) c s c
 | .kB,o=>∃l aO,o= .map l aO
 | .tok _ _,_=>True
theorem OR.mono{ρ σ:aw}(h:ρ.le σ){N:Nat}{x:ae}{o:Obj}(k:OR ρ N x o):OR σ N x o:=by
 cases x<;>simp only[OR] at k ⊢
 case cells n t z=>obtain⟨c,e,r,s,u,f⟩:=k;exact⟨c,e,r,s,u,fun i hi=>let ⟨x,v,a,b,d,q⟩:=f i hi;⟨x,v,a,b,d,VR.mono h _ _ q⟩⟩
 case map es aO=>obtain⟨l,r,c,s⟩:=k;exact⟨l,r,c,kI.mono h _ _ _ s⟩
 case jQ es=>obtain⟨l,c,r,a,b,s⟩:=k;exact⟨l,c,r,a,b,s.mono h⟩
 case loop st bL fn tmps nt params assign body defers=>obtain⟨a,b,M,r,s,q,u,v⟩:=k;exact⟨a,b,M,r,s.mono h,q,h _ _ u,v⟩
 case defs=>exact k
 case ro n t=>obtain⟨c,e,q,r,s,u,f⟩:=k;exact⟨c,e,q,r,s,u,fun i hi=>let ⟨x,v,a,b,d,q⟩:=f i hi;⟨x,v,a,b,d,VR.mono h _ _ q⟩⟩
 case th n t=>obtain⟨c,e,q,r,f⟩:=k;exact⟨c,e,q,r,fun i hi=>let ⟨x,v,a,b,d,q⟩:=f i hi;⟨x,v,a,b,d,VR.mono h _ _ q⟩⟩
 case Fk s pos=>exact k
 case iter m es ex left cur=>obtain⟨b,M,c,s,r,q⟩:=k;exact⟨b,M,c,s,h _ _ r,q⟩
 case kB=>exact k
def ox(ρ:aw)(w:World)(n m:Nat)(es:List<|AV×AV)(exact:Bool)(left:List<|AV×AV)(cur:Option<|AV×AV):Prop:=
 ∃b N bm M l aO seen,ρ n=some (b,N)/\ρ m=some (bm,M)/\w.heap[b]? =some (.mapIter (some bm) aO seen aO)/\w.heap[bm]? =some (.map l aO)/\
  sL l.toList aO/\(exact=true->aO=es.length/\kI ρ es l.toList 0)/\(exact=false->lp es/\vK ρ es l.toList)/\
  vK ρ left (l.toList.filter fun e=> !seen.contains e.born)/\
  (match cur with
  |none=>seen= #[]
  |some x=>∃e,e∈l.toList/\seen.back?=some e.born/\VR ρ x.1 e.key/\VR ρ x.2 e.val)
theorem ox.mono{ρ σ:aw}(h:ρ.le σ){m:Nat}{es:List<|AV×AV}{ex:Bool}{left:List<|AV×AV}{cur:Option<|AV×AV}(k:ox ρ w n m es ex left cur):ox σ w n m es ex left cur:=by
 obtain⟨b,N,bm,M,l,aO,seen,h1,h2,h3,h4,h5,h6,h7,h8,h9⟩:=k;refine⟨b,N,bm,M,l,aO,seen,h _ _ h1,h _ _ h2,h3,h4,h5,fun e=>⟨(h6 e).1,(h6 e).2.mono h⟩,fun e=>⟨(h7 e).1,(h7 e).2.mono h⟩,h8.mono h,?_⟩;cases cur with
 |none=>exact h9
 |some x=>obtain⟨e,a,b,c,d⟩:=h9;exact⟨e,a,b,VR.mono h _ _ c,VR.mono h _ _ d⟩
structure aJ where
 may:Nat->Prop
 F:Nat->Option (List AV)
 dy:Nat->Prop
 inv:Nat->AV->aw->World->Nat->(Nat->Prop)->Prop
 dL:Nat
 mono:∀{k v ρ σ w w' b H},inv k v ρ w b H->(∀m x,top<=m->ρ m=some x->σ m=some x)->(∀x,H x->w'.heap[x]? =w.heap[x]?)->inv k v σ w' b H
def ael(W:World):aJ:=⟨fun k=>W.heap.size<=k,fun _=>none,fun _=>True,fun _ _ _ _ _ _=>False,W.heap.size,fun h _ _=>h⟩
def jX(ρ:aw)(h:Tr ae)(b:Nat):Prop:=∀m o N,m<top->h.get m=some o->o.di=false->ρ m≠some (b,N)
def gj(ρ:aw):aw:=fun k=>if top<=k then ρ k else none
theorem IY(ρ:aw):(gj ρ).le ρ:=by
 intro k x e;unfold gj at e;split at e
 ·exact e
 ·cases e
theorem E3{ρ σ:aw}(h:ρ.le σ):(gj ρ).le<|gj σ:=by
 intro k x e;unfold gj at e ⊢;split at e
 ·rename_i q;rw[if_pos q];exact h _ _ e
 ·cases e
def Fz(B:aJ)(ρ:aw)(h:Tr ae)(w:World):Prop:=∀n b sh,ρ (hn n b sh)≠none->(B.dy (hn n b sh)\/B.may b)/\∃l c e fr,B.F n=some l/\w.heap[b]? =some (.cells c e fr)/\jX ρ h b/\∀i x,l[i]? =some x->∃v,c[sh+i]? =some v/\VR (gj ρ) x v/\x.cj=true
def tV(B:aJ)(ρ:aw)(h:Tr ae)(w:World):Prop:=(B.dL<=w.heap.size/\∀m o,m<top->h.get m=some o->o.mK=true->∃b N,ρ m=some (b,N)/\b<B.dL)/\∃H:Nat->Nat->Prop,(∀n k v,n<top->h.get n=some (.tok k v)->∃b N,ρ n=some (b,N)/\B.inv k v ρ w b (H n)/\H n b/\∀x,H n x->(x<w.heap.size/\B.dL<=x)/\B.may x/\jX ρ h x/\∀j sh,ρ (hn j x sh)=none)/\∀n m x k v k' v',n<top->m<top->h.get n=some (.tok k v)->h.get m=some (.tok k' v')->n≠m->H n x->¬H m x
theorem tV.of{B:aJ}{ρ σ:aw}{h h':Tr ae}{w':World}(f:tV B ρ h w)(hl:ρ.le σ)(ht:∀n o,n<top->h'.get n=some o->o.di=true->h.get n=some o)(hs:w.heap.size<=w'.heap.size)(hw:∀b,b<w.heap.size->jX ρ h b->w'.heap[b]? =w.heap[b]?)(hd:∀b,b<w.heap.size->jX ρ h b->jX σ h' b)(hm:∀j x sh,x<w.heap.size->jX ρ h x->ρ (hn j x sh)=none->σ (hn j x sh)=none):tV B σ h' w':=by
 obtain⟨h0,H,h1,h2⟩:=f;refine⟨⟨Nat.le_trans h0.1 hs,fun m o eB hg hf=>?_⟩,H,fun n k v hn hg=>?_,fun n m x k v k' v' hn eB g1 g2=>h2 n m x k v k' v' hn eB (ht _ _ hn g1 rfl)<|ht _ _ eB g2 rfl⟩
 ·obtain⟨b,N,e1,e2⟩:=h0.2 m o eB (ht _ _ eB hg<|ae.j9 hf) hf;exact⟨b,N,hl _ _ e1,e2⟩
 obtain⟨b,N,a1,a2,a3,a4⟩:=h1 n k v hn<|ht _ _ hn hg rfl;refine⟨b,N,hl _ _ a1,B.mono a2 (fun m x _ e=>hl _ _ e) fun x hx=>?_,a3,fun x hx=>?_⟩
 ·obtain⟨⟨c1,_⟩,_,c3,_⟩:=a4 x hx;exact hw x c1 c3
 ·obtain⟨⟨c1,cl⟩,c2,c3,c4⟩:=a4 x hx;exact⟨⟨Nat.lt_of_lt_of_le c1 hs,cl⟩,c2,hd x c1 c3,fun j sh=>hm j x sh c1 c3<|c4 j sh⟩
theorem tV.no{B:aJ}{ρ:aw}{h:Tr ae}(hn:∀n k v,n<top->h.get n=some (.tok k v)->False)(hl:B.dL<=w.heap.size/\∀m o,m<top->h.get m=some o->o.mK=true->∃b N,ρ m=some (b,N)/\b<B.dL):tV B ρ h w:=⟨hl,fun _ _=>False,fun n k v ht hg=>(hn n k v ht hg).elim,fun n _ _ k v _ _ ht _ hg _ _ _=>(hn n k v ht hg).elim⟩
structure Rel (B:aJ) (ρ:aw) (h:Tr ae) (w:World):Prop where
 is:∀n o,n<top->h.get n=some o->∃b N o',ρ n=some (b,N)/\w.heap[b]? =some o'/\OR ρ N o o'/\(o.di=false->B.may b)
 one:∀n m o p b N M,n<top->m<top->h.get n=some o->h.get m=some p->(o.di=false\/p.di=false)->ρ n=some (b,N)->ρ m=some (b,M)->n=m
 iter:∀n m es ex left cur,n<top->h.get n=some (.iter m es ex left cur)->m<top/\h.get m=some .kB/\ox ρ w n m es ex left cur
 size:∀k,w.heap.size<=k->B.may k
 lone:∀i j m es ex left cur g9 ju iS iV,i<top->j<top->h.get i=some (.iter m es ex left cur)->h.get j=some (.iter m g9 ju iS iV)->i=j
 fz:Fz B ρ h w
 tk:tV B ρ h w
end Go.Rn
namespace Go.Rn
variable {α β:Type}
structure AS where
 h:Tr ae
 nx:Nat
 mark:Nat
 rd:List Nat
 wr:List Nat
inductive R (α:Type) where
 |bad
 |ok (a:α) (s:AS)
def M(α:Type):Type:=AS->R α
noncomputable def M.pure(a:α):M α:=fun s=>.ok a s
noncomputable def M.bind(m:M α)(f:α->M β):M β:=fun s=> @R.rec α (fun _=>R β) .bad (fun a s1=>f a s1)<|m s
noncomputable instance:Monad M where
 pure:=M.pure
 bind:=M.bind
noncomputable def fail:M α:=fun _=>.bad
noncomputable def lift(o:Option α):M α:=fun s=> @Option.rec α (fun _=>R α) .bad (fun a=>.ok a s) o
noncomputable def aA(o:Option α)(f:α->M β):M β:=fun s=> @Option.rec α (fun _=>R β) .bad (fun a=>f a s) o
noncomputable def jS(b:Bool):M Unit:=fun s=> @Bool.rec (fun _=>R Unit) .bad (.ok () s) b
noncomputable def aF(b:Bool)(m:M β):M β:=fun s=> @Bool.rec (fun _=>R β) .bad (m s) b
noncomputable def forced(n:Nat)(k:Nat->α):α:= @Nat.rec (fun _=>α) (k 0) (fun m _=>k<|m+1) n
theorem yx(n:Nat)(k:Nat->α):forced n k=k n:=by cases n<;>rfl
noncomputable def bp(n:Nat):M ae:=fun s=>
 @AS.rec (fun _=>R ae) (fun h nx mark rd wr=>
  @Bool.rec (fun _=>R ae) .bad
   (@Option.rec ae (fun _=>R ae) .bad
    (fun o=> @Bool.rec (fun _=>R ae) (.ok o ⟨h,nx,mark,rd,wr⟩) (.ok o ⟨h,nx,mark,n::rd,wr⟩)<|Nat.blt n mark)
    (h.get n))
   (Nat.blt n nx)) s
noncomputable def bI(n:Nat)(o:Option ae):M Unit:=fun s=>
 @AS.rec (fun _=>R Unit) (fun h nx mark rd wr=>
  @Bool.rec (fun _=>R Unit) .bad
   (@Option.rec ae (fun _=>R Unit) .bad
    (fun p=> @Bool.rec (fun _=>R Unit)
     (@Bool.rec (fun _=>R Unit) (.ok () ⟨h.put n o,nx,mark,rd,wr⟩) (.ok () ⟨h.put n o,nx,mark,n::rd,n::wr⟩)<|Nat.blt n mark)
     .bad p.di)
    (h.get n))
   (and (Nat.blt n nx)<|Nat.blt n top)) s
noncomputable def fh(o:ae):M Nat:=fun s=> @AS.rec (fun _=>R Nat) (fun h nx mark rd wr=> @Bool.rec (fun _=>R Nat) .bad (forced nx fun m=>.ok m ⟨h.put m<|some o,m+1,mark,rd,wr⟩)<|Nat.blt nx top) s
end Go.Rn
namespace Go.Rn
noncomputable section
def Fv:Value->Option AV
 | .bool b=>some<|.bool b
 | .int k n=>some<|.int k n
 | .string s=>some<|.str s
 | .pointer none=>some<|.ptr none
 | .slice none len cap=>match Nat.beq len 0&&Nat.beq cap 0 with
  |true=>some<|.slice none 0<|.known 0
  |false=>none
 | .map none=>some<|.map none
 | .nilFunc=>some .nilFunc
 | .nilIface=>some .nilIface
 |_=>none
def wF:List Value->Option (List AV)
 |[]=>some []
 |v::l=>match Fv v with
  |none=>none
  |some x=>match wF l with
   |none=>none
   |some r=>some<|x::r
def ofValue:Value->Option AV
 | .agg cs=>match wF cs.toList with
  |none=>none
  |some l=>some<|.agg l
 | .tuple cs=>match wF cs.toList with
  |none=>none
  |some l=>some<|.tuple l
 |v=>Fv v
def fN:Nat:=256
def aG(t:Tr AV)(x:Operand):Option AV:= @Operand.rec (fun _=>Option AV) (fun i=>t.get i) (fun v=>ofValue v) (fun g=> @Bool.rec (fun _=>Option AV) none (some<|.ptr<|some (g,0))<|Nat.blt g fN) (fun f=>some<|.func (.func f) [] []) x
def eD(P:Program)(t:TypeId):Option Nat:=
 match P.info? t with
 |none=>none
 |some i=>some i.size
def qi(P:Program)(t:TypeId):Option AV:=
 match P.info? t with
 |none=>none
 |some i=>match i.zero with
  |none=>none
  |some v=>ofValue v
def qw(P:Program)(t:TypeId):Option Bool:=
 match P.underlying t with
 |some (.struct _)=>some true
 |some (.array _ _)=>some true
 |some _=>some false
 |none=>none
def lr(t:Tr AV)(z:List AV):Nat->Nat->Option (List AV)
 |0,_=>some []
 |k+1,off=>match cellAt t z off with
  |none=>none
  |some v=>match lr t z k (off+1) with
   |none=>none
   |some l=>some<|v::l
def je(n off:Nat):Nat->M (List AV)
 |0=>M.pure []
 |k+1=>(bp n).bind fun o=>match o with
  | .cells m t z=>aF (Nat.ble (off+(k+1)) m) <| lift<|lr t z (k+1) off
  | .ro m t=>aF (Nat.ble (off+(k+1)) m) <| lift<|lr t [] (k+1) off
  |_=>fail
def qQ(n off:Nat)(l:List AV):M Unit:=
  match l with
  |[]=>M.pure ()
  | x ::r=>(bp n).bind fun o=>match o with
    | .cells m t z=>aF (and (Nat.ble (off+(r.length+1)) m)<|and (Nat.ble m top)<|(x::r).all AV.cj) <|
      bI n (some<|.cells m (Tr.fill (x::r) off t) z)
    |_=>fail
def newRow(l:List AV):M Nat:=aF (and (Nat.ble l.length top)<|l.all AV.cj) <| fh<|.cells l.length (Tr.fill l 0 .nil) []
def one:List AV->Option AV
 |[v]=>some v
 |_=>none
def loadVar(P:Program)(t:TypeId)(n off:Nat):M AV:=
 aA (qw P t) fun ag=>match ag with
  |true=>aA (eD P t) fun k=>(je n off k).bind fun l=>M.pure<|.agg l
  |false=>(je n off 1).bind fun l=>lift<|one l
def storeVar(P:Program)(t:TypeId)(n off:Nat)(v:AV):M Unit:=aA (eD P t) fun k=>aF (Nat.beq v.cells.length k) <| qQ n off v.cells
def addrOf:AV->Option (Nat×Nat)
 | .ptr (some a)=>some a
 |_=>none
def intOf:AV->Option Int
 | .int _ n=>some n
 |_=>none
def wT:AV->Option Bool
 | .bool b=>some b
 |_=>none
def uU(P:Program)(t:TypeId)(cs:List AV)(off:Nat):Option AV:=
 match qw P t with
 |none=>none
 |some true=>match eD P t with
  |none=>none
  |some k=>some<|.agg<|(cs.drop off).take k
 |some false=>cs[off]?
def E4:List AV->List AV->Nat->List AV
 |cs,[],_=>cs
 |cs,c::l,off=>E4 (cs.set off c) l<|off+1
def wU(place:Nat->Option (Nat×Nat)):List AV->List (Nat×AV)->Option (List AV)
 |cells,[]=>some cells
 |cells,(i,v)::rest=>match place i with
  |none=>none
  |some (off,size)=>
   match Nat.beq v.cells.length size&&Nat.ble (off+v.cells.length) cells.length with
   |false=>none
   |true=>wU place (E4 cells v.cells off) rest
def jT(ev:Operand->Option AV):List Operand->Option (List AV)
 |[]=>some []
 |x::l=>match ev x with
  |none=>none
  |some v=>match jT ev l with
   |none=>none
   |some r=>some<|v::r
def uV(ev:Operand->Option AV):List (Nat×Operand)->Option (List<|Nat×AV)
 |[]=>some []
 |(i,x)::l=>match ev x with
  |none=>none
  |some v=>match uV ev l with
   |none=>none
   |some r=>some<|(i,v)::r
def AH(P:Program):List Field->Option (List<|Nat×Nat)
 |[]=>some []
 |f::l=>match eD P f.type with
  |none=>none
  |some k=>match AH P l with
   |none=>none
   |some r=>some<|(f.offset,k)::r
def build(P:Program)(t:TypeId)(parts:List<|Nat×AV):Option AV:=
 match qi P t with
 |none=>none
 |some z=>match P.underlying t with
  |some (.struct fs)=>match AH P fs.toList with
   |none=>none
   |some pl=>match wU (fun i=>pl[i]?) z.cells parts with
    |none=>none
    |some l=>some<|.agg l
  |some (.array _ e)=>match eD P e with
   |none=>none
   |some k=>match wU (fun i=>some (i*k,k)) z.cells parts with
    |none=>none
    |some l=>some<|.agg l
  |_=>none
def E5:Nat->List AV->List AV
 |0,_=>[]
 |n+1,z=>z++E5 n z
def buildSlice(P:Program)(t:TypeId)(len:Nat)(parts:List<|Nat×AV):M AV:=do
  match P.underlying t with
  | some (.slice e)=>do
    let k ←lift (eD P e)
    let z ←lift (qi P e)
    jS (Nat.ble (len*k) 1048576&&Nat.beq z.cells.length k)
    let l ←lift (wU (fun i=>some (i*k,k)) (E5 len z.cells) parts)
    let r ←newRow l
    pure (.slice (some (r,0)) len<|.known len)
  |_=>fail
def fieldAddr(P:Program)(s:TypeId)(x:AV)(field:Nat):Option AV:=
 match P.underlying s with
 |some (.struct fs)=>match fs[field]? with
  |none=>none
  |some f=>match eD P f.type with
   |none=>none
   |some k=>match Nat.beq k 0 with
    |true=>none
    |false=>match x with
     | .ptr (some (n,o))=>some<|.ptr<|some (n,o+f.offset)
     | .pk n o=>some<|.pk n<|o+f.offset
     |_=>none
 |_=>none
def T2(P:Program)(s:TypeId)(x:AV)(field:Nat):Option AV:=
 match P.underlying s,x with
 |some (.struct fs),.agg cs=>match fs[field]? with
  |none=>none
  |some f=>uU P f.type cs f.offset
 |_,_=>none
def within(i:Int)(len:Nat):Option Nat:=
 match i with
 | .ofNat n=>match Nat.blt n len with
  |true=>some n
  |false=>none
 | .negSucc _=>none
def indexAddr(P:Program)(t:TypeId)(x ix:AV):Option AV:=
 match intOf ix with
 |none=>none
 |some i=>match P.underlying t,x with
  |some (.array len e),.ptr (some (n,o))=>match within i len,eD P e with
   |some j,some k=>some<|.ptr<|some (n,o+j*k)
   |_,_=>none
  |some (.slice e),.slice (some (n,o)) len _=>match within i len,eD P e with
   |some j,some k=>some<|.ptr<|some (n,o+j*k)
   |_,_=>none
  |some (.slice e),.U n o len=>match within i len,eD P e with
   |some j,some k=>some<|.pk n<|o+j*k
   |_,_=>none
  |_,_=>none
def indexOf(P:Program)(t:TypeId)(x ix:AV):Option AV:=
 match intOf ix with
 |none=>none
 |some i=>match P.underlying t,x with
  |some (.array len e),.agg cs=>match within i len,eD P e with
   |some j,some k=>uU P e cs<|j*k
   |_,_=>none
  |_,_=>none
def bound(x:Option AV)(tH ahC:Nat):Option Nat:=
 match x with
 |none=>some ahC
 |some v=>match intOf v with
  |none=>none
  |some i=>within i<|tH+1
def opt(ev:Operand->Option AV):Option Operand->Option (Option AV)
 |none=>some none
 |some x=>match ev x with
  |none=>none
  |some v=>some<|some v
def iR(len:Nat)(c:cL):Nat:=
 match c with
 | .known c=>c
 | .ak lo _=>lo
 | .lost=>len
def slice3(k:Nat)(a:Option<|Nat×Nat)(low:Nat)(lo hi:Option AV)(mx:AV):Option AV:=
 match bound (some mx) low 0 with
 |none=>none
 |some m=>match hi with
  |none=>none
  |some hi=>match bound (some hi) m 0 with
   |none=>none
   |some h=>match bound lo h 0 with
    |none=>none
    |some l=>match a with
     |none=>some<|.slice none (h - l)<|.known<|m - l
     |some (n,o)=>match Nat.beq m l with
      |true=>some<|.slice (some (n,o)) (h - l)<|.known<|m - l
      |false=>some<|.slice (some (n,o+l*k)) (h - l)<|.known<|m - l
def wG(P:Program)(t:TypeId)(x:AV)(lo hi mx:Option AV):Option AV:=
 match P.underlying t,x with
 |some (.slice e),.slice a len cap=>
  match eD P e with
  |none=>none
  |some k=>
   match mx with
   |some mx=>match cap with
    | .lost=>none
    |cap=>slice3 k a (iR len cap) lo hi mx
   |none=>
    match bound hi (iR len cap) len with
    |none=>none
    |some h=>match bound lo h 0 with
     |none=>none
     |some l=>match a,cap with
      |none,.known c=>some<|.slice none (h - l)<|.known<|c - l
      |none,_=>none
      |some (n,o),.known c=>match Nat.beq c l with
       |true=>some<|.slice (some (n,o)) (h - l)<|.known<|c - l
       |false=>some<|.slice (some (n,o+l*k)) (h - l)<|.known<|c - l
      |some (n,o),.ak b e=>match Nat.beq l 0 with
       |true=>some<|.slice (some (n,o)) (h - l)<|.ak b e
       |false=>none
      |some _,.lost=>none
 |some (.array len e),.ptr (some (n,o))=>
  match eD P e with
  |none=>none
  |some k=>match mx with
   |some _=>none
   |none=>match bound hi len len with
    |none=>none
    |some h=>match bound lo h 0 with
     |none=>none
     |some l=>match Nat.beq len l with
      |true=>some<|.slice (some (n,o)) (h - l)<|.known<|len - l
      |false=>some<|.slice (some (n,o+l*k)) (h - l)<|.known<|len - l
 |_,_=>none
def room:Nat:=140737488355328
def makeSlice(P:Program)(t:TypeId)(len cap:AV):M AV:=
 match P.underlying t with
 |some (.slice e)=>
  aA (intOf len) fun l=>aA (intOf cap) fun c=>aA (P.info? e) fun i=>aA (within c room) fun c=>aA (within l<|c+1) fun l=>aA (qi P e) fun z=>
  aF (and (Nat.ble (c*i.bytes) room)<|and (Nat.ble (c*i.size) top)<|and (or (Nat.beq (c*i.size) 0)<|not<|Nat.beq z.cells.length 0)<|z.cells.all AV.cj) <|
  (fh<|.cells (c*i.size) .nil z.cells).bind fun r=>M.pure<|.slice (some (r,0)) l<|.known c
 |_=>fail
def firstCells(size n:Nat):AV->M (List AV)
 | .slice (some _) 0 .lost=>aF (Nat.beq n 0) <| M.pure []
 | .slice (some (m,o)) _ _=>je m o<|n*size
 | .slice none _ _=>M.pure []
 |_=>fail
def lenOf:AV->Option Nat
 | .slice _ n _=>some n
 |_=>none
def grown(size bytes mW:Nat)(dy new:List AV):M AV:=
 aF (and (Nat.ble (2*mW*bytes+4096*bytes) room)<|not<|Nat.beq bytes 0) <|
 (newRow<|dy++new).bind fun r=>M.pure<|.slice (some (r,0)) mW<|.ak mW size
def wt(n off:Nat)(l:List AV):M Unit:=
  match l with
  |[]=>M.pure ()
  | x ::r=>(bp n).bind fun o=>match o with
    | .cells m t z=>aF (and (Nat.ble off m)<|and (Nat.ble (max m<|off+(r.length+1)) top)<|(x::r).all AV.cj) <|
      bI n (some<|.cells (max m<|off+(r.length+1)) (Tr.fill (x::r) off t) z)
    |_=>fail
def ae.yC:ae->Bool
 | .cells _ _ _=>true
 |_=>false
def sw(i:TypeInfo):Bool:=
 match i.zero with
 |none=>false
 |some v=>Nat.beq v.cells.size i.size
def qR(size bytes:Nat)(base:Option<|Nat×Nat)(len:Nat)(cap:cL)(n:Nat)(new:List AV):M AV:=
 match cap with
 | .known c=>match Nat.ble (len+n) c with
  |true=>(match base with
   |some (m,o)=>qQ m (o+len*size) new
   |none=>M.pure ()).bind fun _=>M.pure (.slice base (len+n)<|.known c)
  |false=>(firstCells size len<|.slice base len<|.known c).bind fun dy=>grown size bytes (len+n) dy new
 | .ak lo sz=>aF (Nat.beq sz size) <| match Nat.ble (len+n) lo with
  |true=>match base with
   |some (m,o)=>(wt m (o+len*size) new).bind fun _=>M.pure<|.slice (some (m,o)) (len+n)<|.ak lo sz
   |none=>fail
  |false=>match base with
   |some (m,0)=>(je m 0<|len*size).bind fun dy=>(bp m).bind fun o=>aF o.yC <| (bI m none).bind fun _=>grown size bytes (len+n) dy new
   |_=>fail
 | .lost=>fail
def oZ(P:Program)(t:Option TypeId):Bool:=
 match t with
 |none=>true
 |some t=>match P.underlying t with
  |some (.int _)=>false
  |some _=>true
  |none=>false
def oX(P:Program)(argTypes:Array TypeId)(s x:AV):M AV:=
 aA argTypes[0]? fun t=>match P.underlying t,s with
 |some (.slice e),.slice base len cap=>
  aA (P.info? e) fun i=>aF (and (sw i)<|oZ P argTypes[1]?) <| aA (lenOf x) fun n=>(firstCells i.size n x).bind fun new=>
  aF (Nat.beq new.length<|n*i.size) <| qR i.size i.bytes base len cap n new
 |_,_=>fail
def acD:AV->Bool
 | .slice _ _ .lost=>false
 |_=>true
def yN(P:Program)(argTypes:Array TypeId)(d x:AV):M AV:=
 aA argTypes[0]? fun t=>match P.underlying t,d with
 |some (.slice e),.slice base len cap=>
  aA (eD P e) fun k=>aA (lenOf x) fun m=>aF (acD<|.slice base len cap) <| (firstCells k (Nat.min m len) x).bind fun cells=>
  (match base with
  |some (r,o)=>qQ r o cells
  |none=>M.pure ()).bind fun _=>M.pure (.int .i64 (Nat.min m len:Nat))
 |_,_=>fail
def eqFields(P:Program)(eq:TypeId->AV->AV->Option Bool)(xs ys:List AV):List Field->Option Bool
 |[]=>some true
 |f::l=>match f.name == "_" with
  |true=>eqFields P eq xs ys l
  |false=>match uU P f.type xs f.offset,uU P f.type ys f.offset with
   |some a,some b=>match eq f.type a b with
    |none=>none
    |some false=>some false
    |some true=>eqFields P eq xs ys l
   |_,_=>none
def O9(n len:Nat):Option Bool:=match len with
 |0=>match Nat.beq n top with
  |true=>some true
  |false=>match Nat.beq n (top+1) with
   |true=>some false
   |false=>none
 |_+1=>some false
def pF(P:Program):Nat->TypeId->AV->AV->Option Bool
 |0,_,_,_=>none
 |d+1,t,x,y=>
  match P.underlying t,x,y with
  |some .bool,.bool a,.bool b=>some<|a == b
  |some (.int _),.int k a,.int k' b=>match decide (k=k') with
   |true=>some<|a == b
   |false=>none
  |some (.pointer _),.ptr none,.ptr b=>some b.isNone
  |some (.pointer _),.ptr (some _),.ptr none=>some false
  |some (.struct fs),.agg xs,.agg ys=>match P.stoodInHeld t with
   |true=>none
   |false=>eqFields P (pF P d) xs ys fs.toList
  |some (.slice _),.slice none _ _,.slice b _ _=>some b.isNone
  |some (.slice _),.slice (some _) _ _,.slice none _ _=>some false
  |some (.slice _),.U n _ len,.slice none _ _=>O9 n len
  |_,_,_=>none
def isConst:Operand->Bool
 | .const _=>true
 |_=>false
def LZ(P:Program)(t:TypeId)(x y:Operand)(a b:AV):Bool:=
 match a,b with
 | .nilIface,.nilIface=>isConst x||isConst y
 | .agg _,.agg _=> !P.eqGuardType P.depth t
 |_,_=>true
def Dk(op:BinOp)(k:IntKind)(a b:Int):Option AV:=
 match op with
 | .add=>some<|.int k<|k.wrap<|a+b
 | .sub=>some<|.int k<|k.wrap<|a - b
 | .mul=>some<|.int k<|k.wrap<|a*b
 | .quo=>match decide (b=0) with
  |true=>none
  |false=>some<|.int k<|k.wrap<|a.tdiv b
 | .rem=>match decide (b=0) with
  |true=>none
  |false=>some<|.int k<|a.tmod b
 | .and=>some<|.int k<|k.wrap (BitVec.ofInt k.bits a&&& BitVec.ofInt k.bits b).toNat
 | .or=>some<|.int k<|k.wrap (BitVec.ofInt k.bits a|||BitVec.ofInt k.bits b).toNat
 | .xor=>some<|.int k<|k.wrap (BitVec.ofInt k.bits a ^^^ BitVec.ofInt k.bits b).toNat
 | .andNot=>some<|.int k<|k.wrap (BitVec.ofInt k.bits a&&& ~~~BitVec.ofInt k.bits b).toNat
 | .eql=>some<|.bool<|a == b
 | .neq=>some<|.bool<|a != b
 | .lss=>some<|.bool<|a<b
 | .leq=>some<|.bool<|a<=b
 | .gtr=>some<|.bool<|a>b
 | .geq=>some<|.bool<|a>=b
 |_=>none
def No(op:BinOp)(k:IntKind)(x y:Int):Option AV:=
 match decide (y<0) with
 |true=>none
 |false=>match op with
  | .shl=>some<|.int k<|k.wrap<|x*2 ^ min y.toNat k.bits
  | .shr=>some<|.int k<|x.fdiv<|2 ^ min y.toNat k.bits
  |_=>none
def yD:BinOp->Bool
 | .shl| .shr=>true
 |_=>false
def AY(P:Program)(op:BinOp)(t:TypeId)(x y:AV):Option AV:=
 match x,y with
 | .int k a,.int k' b=>match yD op with
  |true=>No op k a b
  |false=>match decide (k=k') with
   |true=>Dk op k a b
   |false=>none
 |x,y=>match op with
  | .eql=>match pF P Op.maxDepth t x y with
   |none=>none
   |some b=>some<|.bool b
  | .neq=>match pF P Op.maxDepth t x y with
   |none=>none
   |some b=>some<|.bool !b
  |_=>none
def Vv(op:UnOp)(x:AV):Option AV:=
 match op,x with
 | .not,.bool b=>some<|.bool !b
 |_,_=>none
def MK(P:Program)(src dst:TypeId)(x:AV):Option AV:=
 match P.underlying src,P.underlying dst,x with
 |some _,some (.int k),.int _ n=>some<|.int k<|k.wrap n
 |_,_,_=>none
def plainKey(P:Program)(t:TypeId)(key:AV):Bool:=
 match P.underlying t,key with
 |some (.int _),.int _ _=>true
 |some .string,.str _=>true
 |some .bool,.bool _=>true
 |_,_=>false
def kR(key:AV):List (AV×AV)->Nat->Option (Option<|Nat×AV)
 |[],_=>some none
 |(k,v)::l,i=>match sameKey key k with
  |none=>none
  |some true=>some<|some (i,v)
  |some false=>kR key l<|i+1
def E7(P:Program)(t:TypeId)(key:AV):List (AV×AV)->Nat->Option (Option<|Nat×AV)
 |[],_=>some none
 |(k,v)::l,i=>match pF P Op.maxDepth t key k with
  |none=>none
  |some true=>some<|some (i,v)
  |some false=>E7 P t key l<|i+1
def tW:AV->Bool
 | .JZ _=>false
 |_=>true
def findKey(P:Program)(t:TypeId)(key:AV)(es:List<|AV×AV):Option<|Option<|Nat×AV:=
 match tW key with
 |false=>none
 |true=>match plainKey P t key with
  |true=>kR key es 0
  |false=>E7 P t key es 0
def EO(P:Program)(BS:TypeId->AV->Bool)(cs:List AV):List Field->Bool
 |[]=>true
 |f::l=>match f.name == "_" with
  |true=>EO P BS cs l
  |false=>match uU P f.type cs f.offset with
   |none=>false
   |some a=>match BS f.type a with
    |true=>EO P BS cs l
    |false=>false
def oy(P:Program):Nat->TypeId->AV->Bool
 |0,_,_=>false
 |d+1,t,x=>match P.underlying t,x with
  |some .bool,_=>true
  |some (.int _),_=>true
  |some .string,_=>true
  |some (.struct fs),.agg cs=>EO P (oy P d) cs fs.toList
  |_,_=>false
def AZ(r:Nat):M<|List<|AV×AV:=do
 match ←bp r with
 | .map es _=>pure es
 | .jQ es=>pure es
 |_=>fail
def short:List (AV×AV)->Bool
 |[]=>true
 |[_]=>true
 |_=>false
def yO(P:Program)(k:TypeId)(key x:AV):M<|List<|AV×AV:=
 match x with
 | .map none=>M.pure []
 | .map (some r)=>(bp r).bind fun o=>match o with
  | .map es _=>M.pure es
  | .jQ es=>aF (or (plainKey P k key)<|short es) <| M.pure es
  |_=>fail
 |_=>fail
def zL(ok:Bool)(v:AV)(b:Bool):AV:=
 match ok with
 |true=>.tuple [v,.bool b]
 |false=>v
def yE(P:Program)(t:TypeId)(x key:AV)(ok:Bool):M AV:=
 match P.underlying t with
 |some (.map k e)=>(yO P k key x).bind fun es=>aF (oy P 10000 k key) <| aA (findKey P k key es) fun f=>match f with
  |some q=>M.pure<|zL ok q.2 true
  |none=>aA (qi P e) fun z=>M.pure<|zL ok z false
 |_=>fail
def yF:List AV->List AV->Bool
 |[],[]=>true
 |x::xs,y::ys=>match sameKey x y with
  |some true=>yF xs ys
  |_=>false
 |_,_=>false
def sameBits:AV->AV->Bool
 | .agg xs,.agg ys=>yF xs ys
 |x,y=>match sameKey x y with
  |some true=>true
  |_=>false
def putAt:List (AV×AV)->Nat->AV->AV->List (AV×AV)
 |[],_,_,_=>[]
 |_::l,0,k,v=>(k,v)::l
 |x::l,i+1,k,v=>x::putAt l i k v
def Dl(r:Nat)(key val:AV)(es:List<|AV×AV)(aO:Nat)(f:Option<|Nat×AV):M Unit:=
 match f with
 |some q=>aA es[q.1]? fun dy=>aF (sameBits dy.1 key) <| bI r<|some<|.map (putAt es q.1 key val) aO
 |none=>bI r<|some<|.map (es++[(key,val)])<|aO+1
def Au(r:Nat)(key val:AV)(es:List<|AV×AV)(f:Option<|Nat×AV):M Unit:=
 match f with
 |some q=>bI r<|some<|.jQ<|putAt es q.1 key val
 |none=>bI r<|some<|.jQ<|es++[(key,val)]
def wV(P:Program)(t:TypeId)(m key val:AV):M Unit:=
 match P.underlying t,m with
 |some (.map k _),.map (some r)=>(bp r).bind fun o=>match o with
  | .map es aO=>aF (oy P 10000 k key) <| aA (findKey P k key es) fun f=>Dl r key val es aO f
  | .jQ es=>aF (and (plainKey P k key)<|oy P 10000 k key) <| aA (findKey P k key es) fun f=>Au r key val es f
  |_=>fail
 |_,_=>fail
def zt(P:Program)(argTypes:Array TypeId)(x:AV):M AV:=do
 let t ←lift argTypes[0]?
 match P.underlying t,x with
 |some (.slice _),.slice _ n _=>pure<|.int .i64 n
 |some (.slice _),.U _ _ n=>pure<|.int .i64 n
 |_,_=>fail
def min2:AV->AV->Option AV
 | .int k x,.int _ y=>some<|.int k (match decide (y<x) with|true=>y|false=>x)
 |_,_=>none
def max2:AV->AV->Option AV
 | .int k x,.int _ y=>some<|.int k (match decide (y>x) with|true=>y|false=>x)
 |_,_=>none
def CY(f:AV->AV->Option AV):List AV->AV->Option AV
 |[],x=>some x
 |y::l,x=>match f x y with
  |none=>none
  |some z=>CY f l z
def yy(P:Program)(b:Builtin)(argTypes:Array TypeId)(args:List AV):M AV:=
 match b,args with
 | .len,[x]=>zt P argTypes x
 | .append,[s,x]=>oX P argTypes s x
 | .copy,[d,x]=>yN P argTypes d x
 | .min,x::l=>lift<|CY min2 l x
 | .max,x::l=>lift<|CY max2 l x
 |_,_=>fail
inductive GG where
 |fn (f:FuncId)
 |round (l:Nat)
 |row (n o k:Nat)
def mX(Ye:GG->List AV->M AV)(f:AV)(args:List AV):M AV:=
 match f with
 | .func (.func g) first captured=>Ye (.fn g)<|first++args++captured
 | .yield l=>Ye (.round l) args
 |_=>fail
abbrev aI:=GG->List AV->M AV
abbrev gD:=aI->Tr AV->M AV
inductive qG (α:Type) where
 |mk (a:α)
def uW(x:Operand):gD:=fun _ t=>lift<|aG t x
def Bm(c a b:Operand):gD:=fun _ t=>
 aA (aG t c) fun c=>aA (wT c) fun c=>aA (aG t a) fun a=>aA (aG t b) fun b=>
  match c with
  |true=>M.pure a
  |false=>M.pure b
def IZ(P:Program)(e:TypeId):gD:=fun _ _=>aA (qi P e) fun z=>(newRow z.cells).bind fun r=>M.pure<|.ptr<|some (r,0)
def Bz(x:Operand):gD:=fun _ t=>aA (aG t x) fun v=>(newRow v.cells).bind fun r=>M.pure<|.ptr<|some (r,0)
def A0(P:Program)(ty:TypeId)(parts:List<|Nat×Operand):gD:=fun _ t=>aA (uV (aG t) parts) fun ps=>lift<|build P ty ps
def Ai(P:Program)(ty:TypeId)(len:Nat)(parts:List<|Nat×Operand):gD:=fun _ t=>aA (uV (aG t) parts) fun ps=>buildSlice P ty len ps
def wJ(P:Program)(ty:TypeId)(n o:Nat):M AV:=
 aA (qw P ty) fun ag=>match ag with
  |true=>fail
  |false=>(bp n).bind fun ob=>match ob with
   | .th m t=>aF (Nat.blt o m) <| lift<|t.get o
   |_=>fail
def uI(P:Program)(ty:TypeId)(Ye:aI)(n o:Nat):M AV:=
 aA (qw P ty) fun ag=>aA (eD P ty) fun k=>(Ye (.row n o (match ag with|true=>k|false=>1)) []).bind fun v=>match v with
  | .agg l=>match ag with
   |true=>M.pure<|.agg l
   |false=>lift<|one l
  |_=>fail
def loadAt(P:Program)(ty:TypeId)(Ye:aI)(a:AV):M AV:=
 match a with
 | .pk n o=>match Nat.ble top n with
  |true=>uI P ty Ye n o
  |false=>wJ P ty n o
 |a=>aA (addrOf a) fun a=>loadVar P ty a.1 a.2
def ti(P:Program)(ty:TypeId)(a:Operand):gD:=fun Ye t=>aA (aG t a) fun a=>loadAt P ty Ye a
def wW(P:Program)(ty:TypeId)(a x:Operand):gD:=fun _ t=>aA (aG t a) fun a=>aA (addrOf a) fun a=>aA (aG t x) fun v=>(storeVar P ty a.1 a.2 v).bind fun _=>M.pure p8
def notNil:AV->Bool
 | .ptr none| .nilIface| .nilFunc=>false
 | .func (.func _) _ _=>true
 | .func _ _ _=>false
 |_=>true
def Am(x:Operand):gD:=fun _ t=>aA (aG t x) fun v=>aF (notNil v) <| M.pure v
def Io(P:Program)(op:BinOp)(t:TypeId)(x y:Operand)(a b:AV):Bool:=
 match op with
 | .eql| .neq=>LZ P t x y a b
 |_=>true
def tI(P:Program)(op:BinOp)(ty:TypeId)(x y:Operand):gD:=fun _ t=>aA (aG t x) fun a=>aA (aG t y) fun b=>aF (Io P op ty x y a b) <| lift<|AY P op ty a b
def BT(op:UnOp)(x:Operand):gD:=fun _ t=>aA (aG t x) fun a=>lift<|Vv op a
def Av(P:Program)(src dst:TypeId)(x:Operand):gD:=fun _ t=>
 aA (aG t x) fun a=>match a with
  | .slice _ _ _=>fail
  |a=>lift<|MK P src dst a
def Cr(P:Program)(ty:TypeId)(x:Operand):gD:=fun _ _=>fail
def Wf:Fn->Bool
 | .func _=>true
 |_=>false
def An(fn:Fn)(first captured:List Operand):gD:=fun _ t=>aF (Wf fn) <| aA (jT (aG t) first) fun f=>aA (jT (aG t) captured) fun c=>M.pure<|.func fn f c
def JC(P:Program)(t:TypeId):Bool:=
 match P.underlying t with
 |some (.map _ _)=>true
 |_=>false
def Aw(P:Program)(ty:TypeId)(r:Option Operand):gD:=fun _ t=>
 (match r with
 |none=>M.pure ()
 |some x=>aA (aG t x) fun v=>aA (intOf v) fun _=>jS<|JC P ty).bind fun _=>
 (fh<|.map [] 0).bind fun n=>M.pure<|.map<|some n
def Ak(P:Program)(ty:TypeId)(l c:Operand):gD:=fun _ t=>aA (aG t l) fun l=>aA (aG t c) fun c=>makeSlice P ty l c
def sM(P:Program)(ty:TypeId)(x:Operand)(lo hi mx:Option Operand):gD:=fun _ t=>aA (aG t x) fun x=>aA (opt (aG t) lo) fun lo=>aA (opt (aG t) hi) fun hi=>aA (opt (aG t) mx) fun mx=>lift<|wG P ty x lo hi mx
def Al(P:Program)(s:TypeId)(x:Operand)(f:Nat):gD:=fun _ t=>aA (aG t x) fun x=>lift<|fieldAddr P s x f
def A3(P:Program)(s:TypeId)(x:Operand)(f:Nat):gD:=fun _ t=>aA (aG t x) fun x=>lift<|T2 P s x f
def pU(P:Program)(ty:TypeId)(x i:Operand):gD:=fun _ t=>aA (aG t x) fun x=>aA (aG t i) fun i=>lift<|indexAddr P ty x i
def A4(P:Program)(ty:TypeId)(x i:Operand):gD:=fun _ t=>aA (aG t x) fun x=>aA (aG t i) fun i=>lift<|indexOf P ty x i
def wK(P:Program)(ty:TypeId)(x i:Operand)(ok:Bool):gD:=fun _ t=>aA (aG t x) fun x=>aA (aG t i) fun i=>yE P ty x i ok
def pZ(P:Program)(ty:TypeId)(m k x:Operand):gD:=fun _ t=>aA (aG t m) fun m=>aA (aG t k) fun k=>aA (aG t x) fun x=>(wV P ty m k x).bind fun _=>M.pure p8
def CO(P:Program)(asserted:TypeId)(ok:Bool)(x:Operand):gD:=fun _ _=>fail
def AI(P:Program)(ty:TypeId)(x:AV):M AV:=
 match P.underlying ty,x with
 |some (.map _ _),.map (some m)=>(bp m).bind fun o=>match o with
  | .map es _=>(bI m<|some .kB).bind fun _=>(fh<|.iter m es true es none).bind fun n=>M.pure<|.ptr<|some (n,0)
  | .jQ es=>(bI m<|some .kB).bind fun _=>(fh<|.iter m es false es none).bind fun n=>M.pure<|.ptr<|some (n,0)
  |_=>fail
 |_,_=>fail
def A5(P:Program)(ty:TypeId)(x:Operand):gD:=fun _ t=>aA (aG t x) fun x=>AI P ty x
def acE(x:AV):M AV:=
 match x with
 | .ptr (some (n,0))=>(bp n).bind fun o=>match o with
  | .Fk b pos=>match Nat.blt pos b.size with
   |true=>(bI n<|some<|.Fk b<|pos+(Utf8.decode b pos).2).bind fun _=>M.pure<|.tuple [.bool true,.int .i64 pos,.int .i32 (Utf8.decode b pos).1]
   |false=>M.pure<|.tuple [.bool false]
  |_=>fail
 |_=>fail
def CD(x:Operand):gD:=fun _ _=>fail
def CP(x:AV):M AV:=
 match x with
 | .ptr (some (n,0))=>(bp n).bind fun o=>match o with
  | .iter _ _ _ _ (some (k,v))=>M.pure<|.tuple [k,v]
  |_=>fail
 |_=>fail
def A6(x:Operand):gD:=fun _ t=>aA (aG t x) fun x=>CP x
def partOf(x:AV)(i:Nat):Option AV:=
 match x with
 | .tuple l=>l[i]?
 |_=>none
def Ax(x:Operand)(i:Nat):gD:=fun _ t=>aA (aG t x) fun x=>lift<|partOf x i
def sB(Ye:aI)(n o k:Nat):M<|List AV:=match k with
 |0=>M.pure []
 |k=>(Ye (.row n o k) []).bind fun x=>match x with
  | .agg l=>aF (Nat.beq l.length k) <| M.pure l
  |_=>fail
def OA(size len:Nat)(cap:cL):Bool:=
 match cap with
 | .known c=>and (Nat.beq c 0)<|Nat.beq len 0
 | .ak _ sz=>Nat.beq sz size
 | .lost=>false
def AJ(P:Program)(Ye:aI)(argTypes:Array TypeId)(s:AV)(n o k:Nat):M AV:=
 aF (Nat.ble top n) <| aA argTypes[0]? fun t=>match P.underlying t,s with
 |some (.slice e),.slice (some (m,0)) len cap=>
  aA (P.info? e) fun i=>aF (and (sw i)<|oZ P argTypes[1]?) <| aF (OA i.size len cap) <|
  (sB Ye n o<|k*i.size).bind fun new=>(je m 0<|len*i.size).bind fun dy=>(bp m).bind fun ob=>aF ob.yC <| (bI m none).bind fun _=>grown i.size i.bytes (len+k) dy new
 |_,_=>fail
def og(P:Program)(b:Builtin)(argTypes:Array TypeId)(args:List Operand):gD:=fun Ye t=>
 aA (jT (aG t) args) fun args=>match b,args with
 | .append,[s,.U n o k]=>AJ P Ye argTypes s n o k
 |b,args=>yy P b argTypes args
def tj(f:Operand)(args:List Operand):gD:=fun Ye t=>aA (jT (aG t) args) fun args=>aA (aG t f) fun f=>mX Ye f args
def Np(P:Program)(recv:Operand)(name:String)(args:List Operand):gD:=fun _ _=>fail
def Vx:gD:=fun _ _=>fail
def dG(P:Program)(op:Op):qG gD:=
 match op with
 | .move x=>.mk<|uW x
 | .assign x=>.mk<|uW x
 | .pick c a b=>.mk<|Bm c a b
 | .alloc e=>.mk<|IZ P e
 | .box _ x=>.mk<|Bz x
 | .build t parts=>.mk<|A0 P t parts.toList
 | .buildSlice t len parts=>.mk<|Ai P t len parts.toList
 | .load t a=>.mk<|ti P t a
 | .store t a x=>.mk<|wW P t a x
 | .nilCheck x=>.mk<|Am x
 | .binOp op t x y _=>.mk<|tI P op t x y
 | .unOp op _ x=>.mk<|BT op x
 | .convert src dst x=>.mk<|Av P src dst x
 | .makeInterface t x=>.mk<|Cr P t x
 | .makeFunc fn first captured=>.mk<|An fn first.toList captured.toList
 | .makeMap t r=>.mk<|Aw P t r
 | .makeSlice t l c=>.mk<|Ak P t l c
 | .slice t x lo hi mx=>.mk<|sM P t x lo hi mx
 | .fieldAddr s x f=>.mk<|Al P s x f
 | .field s x f=>.mk<|A3 P s x f
 | .indexAddr t x i=>.mk<|pU P t x i
 | .index t x i=>.mk<|A4 P t x i
 | .lookup t x i ok=>.mk<|wK P t x i ok
 | .mapUpdate t m k x=>.mk<|pZ P t m k x
 | .insert t m k x=>.mk<|pZ P t m k x
 | .typeAssert x _ asserted ok=>.mk<|CO P asserted ok x
 | .range t x=>.mk<|A5 P t x
 | .entry x=>.mk<|A6 x
 | .next x true=>.mk<|CD x
 | .extract x i=>.mk<|Ax x i
 | .call ⟨.builtin b,args,argTypes⟩=>.mk<|og P b argTypes args.toList
 | .call ⟨.value f,args,_⟩=>.mk<|tj f args.toList
 | .call ⟨.invoke recv name,args,_⟩=>.mk<|Np P recv name args.toList
 |_=>.mk Vx
def qG.val{α:Type}(b:qG α):α:= @qG.rec α (fun _=>α) (fun a=>a) b
def GH(P:Program)(Ye:aI)(t:Tr AV)(op:Op):M AV:=(dG P op).val Ye t
end
end Go.Rn
namespace Go.Rn
variable {α:Type}
noncomputable section
structure AF where
 fn:FuncId
 tmps:Tr AV
 nt:Nat
 todo:List Item
 defers:List Nat
 round:Option Nat
def jk(nt:Nat)(t:Tr AV)(dst:Option Tmp)(v:AV):Option<|Tr AV:= @Option.rec Tmp (fun _=>Option<|Tr AV) (some t) (fun d=> @Bool.rec (fun _=>Option<|Tr AV) none (some<|t.put d<|some v)<|Nat.blt d nt) dst
def E9(ops:Array Oper)(t:Tr AV)(j:Nat):Option Bool:=
 match ops[j]? with
 |none=>none
 |some o=>match o.dst with
  |none=>none
  |some d=>match t.get d with
   |some (.bool b)=>some b
   |_=>none
def p0(ops:Array Oper)(g:Nat×Bool)(t:Tr AV):Bool:=
 match E9 ops t g.1 with
 |some b=>b == g.2
 |none=>false
def sN(ops:Array Oper)(t:Tr AV)(j:Nat):Bool:=
 match ops[j]? with
 |none=>true
 |some o=>match o.dst with
  |none=>true
  |some d=>(t.get d).isSome
abbrev OB:=aI->Nat->Tr AV->M (Tr AV)
def rQ(f:qG gD)(dst:Option Tmp):OB:=fun Ye nt t=>(f.val Ye t).bind fun v=>lift<|jk nt t dst v
def tu(ops:Array Oper)(g:Nat×Bool)(f:qG gD)(dst:Option Tmp):OB:=fun Ye nt t=>aF (sN ops t g.1) <| @Bool.rec (fun _=>M<|Tr AV) (lift<|jk nt t dst p8) ((f.val Ye t).bind fun v=>lift<|jk nt t dst v)<|p0 ops g t
def Bn(P:Program)(ops:Array Oper)(o:Oper):qG OB:=
 match o.guard with
 |none=>.mk<|rQ (dG P o.op) o.dst
 |some g=>.mk<|tu ops g (dG P o.op) o.dst
def gN(P:Program)(Ye:aI)(nt:Nat)(ops:Array Oper)(o:Oper)(t:Tr AV):M<|Tr AV:=(Bn P ops o).val Ye nt t
def jl(P:Program)(Ye:aI)(nt:Nat)(ops:Array Oper)(l:List Oper):Tr AV->M (Tr AV):= @List.rec Oper (fun _=>Tr AV->M (Tr AV)) (fun t=>M.pure t) (fun o _ ih t=>(gN P Ye nt ops o t).bind ih) l
structure dt where
 i:Nat
 rd:List Nat
 wr:List Nat
 lo:Nat
 hi:Nat
def uD(m:Nat)(l:List Nat):List Nat:= @List.rec Nat (fun _=>List Nat) [] (fun x _ ih=> @Bool.rec (fun _=>List Nat) ih (List.cons x ih) (Nat.ble m x |> not)) l
def below(m:Nat)(l:List Nat):List Nat:= @Bool.rec (fun _=>List Nat) (uD m l) []<|Nat.beq m 0
def alone(i:Nat)(m:M α):M<|α×dt:=fun s=>
 @AS.rec (fun _=>R<|α×dt) (fun h nx mark rd wr=>forced nx fun lo=>
  @R.rec α (fun _=>R<|α×dt) .bad (fun a s1=>
   @AS.rec (fun _=>R<|α×dt) (fun h1 pG _ gk nT=>forced pG fun hi=>.ok (a,⟨i,below lo gk,below lo nT,lo,hi⟩) ⟨h1,hi,mark,below mark gk++rd,below mark nT++wr⟩) s1)
   (m ⟨h,lo,lo,[],[]⟩)) s
def mY(P:Program)(Ye:aI)(nt:Nat)(ops:Array Oper):List Oper->Nat->Tr AV->M (Tr AV×List dt)
 |[],_,t=>M.pure (t,[])
 |o::l,i,t=>(alone i<|gN P Ye nt ops o t).bind fun x=>(mY P Ye nt ops l (i+1) x.1).bind fun y=>M.pure (y.1,x.2::y.2)
def vt(n:Nat):List Nat->Bool
 |[]=>false
 |x::l=>match Nat.beq x n with
  |true=>true
  |false=>vt n l
def meets:List Nat->List Nat->Bool
 |[],_=>false
 |x::l,m=>match vt x m with
  |true=>true
  |false=>meets l m
def zb(lo hi:Nat):List Nat->Bool
 |[]=>false
 |x::l=>match Nat.ble lo x&&Nat.blt x hi with
  |true=>true
  |false=>zb lo hi l
def sO(x y:dt):Bool:= !(meets x.wr y.rd)&&(!(zb x.lo x.hi y.rd))
def sP(x:dt):Bool:=match x.wr with
 |[]=>Nat.ble x.hi x.lo
 |_=>false
def sr(b:Array Nat)(x:dt):List dt->Bool
 |[]=>true
 |y::l=>match Nat.beq x.i y.i||(sO x y|| !loose b x.i y.i) with
  |true=>sr b x l
  |false=>false
def qj(b:Array Nat)(all:List dt):List dt->Bool
 |[]=>true
 |x::l=>match sP x||sr b x all with
  |true=>qj b all l
  |false=>false
def pW(P:Program)(Ye:aI)(nt:Nat)(ops:Array Oper)(t:Tr AV):M<|Tr AV:=(mY P Ye nt ops ops.toList 0 t).bind fun x=>aF (qj (Region.before ops) x.2 x.2) <| M.pure x.1
inductive br where
 |go (fr:AF)
 |leave (fr:AF) (al7:Option Code)
def getLoop(l:Nat):M ae:=(bp l).bind fun o=>match o with
 | .loop a b c d e f g h i=>M.pure<|.loop a b c d e f g h i
 |_=>fail
abbrev oz:=aI->FuncId->Tr AV->Nat->List Nat->Option Nat->List Item->M br
def qx:oz:=fun _ fn t nt d r k=>M.pure<|.go ⟨fn,t,nt,k,d,r⟩
def nz(l:List Item):oz:=fun _ fn t nt d r k=>M.pure<|.go ⟨fn,t,nt,l++k,d,r⟩
def JD(c:Operand)(a b:Code):oz:=fun _ fn t nt d r k=>aA (aG t c) fun v=>aA (wT v) fun v=>M.pure<|.go ⟨fn,t,nt,.code (@Bool.rec (fun _=>Code) b a v)::k,d,r⟩
def Dm(id:Nat):oz:=fun _ fn t nt d r k=>match exitTo id k with
 |some k'=>M.pure<|.go ⟨fn,t,nt,k',d,r⟩
 |none=>M.pure<|.leave ⟨fn,t,nt,.code (.exit id)::k,d,r⟩<|some<|.exit id
def Dn(l:Nat):oz:=fun _ fn t nt d r k=>match gotoIn l k with
 |some k'=>M.pure<|.go ⟨fn,t,nt,k',d,r⟩
 |none=>M.pure<|.leave ⟨fn,t,nt,.code (.goto l)::k,d,r⟩<|some<|.goto l
def Wg:oz:=fun _ fn t nt d r k=>M.pure<|.leave ⟨fn,t,nt,.code .ret::k,d,r⟩<|some .ret
def Ip(P:Program)(ops:Array Oper):oz:=fun Ye fn t nt d r k=>(jl P Ye nt ops ops.toList t).bind fun t=>M.pure<|.go ⟨fn,t,nt,k,d,r⟩
def HU(P:Program)(ops:Array Oper):oz:=fun Ye fn t nt d r k=>(pW P Ye nt ops t).bind fun t=>M.pure<|.go ⟨fn,t,nt,k,d,r⟩
def acF:LoopState->Bool
 | .busy=>false
 |_=>true
def lN(l:Nat):M<|Option Code:=(getLoop l).bind fun o=>match o with
 | .loop st bL fn t nt ps a b dd=>aF (acF st) <| (bI l<|some<|.loop .exhausted bL fn t nt ps a b dd).bind fun _=>M.pure bL
 |_=>fail
def andThen(p:Option Code)(k:List Item):List Item:=
 match p with
 |none=>k
 |some c=>.code c::k
def uJ(f:Operand)(params:List Tmp)(assign body:Code):oz:=fun Ye fn t nt d r k=>
 match r with
 |none=>
  (fh .defs).bind fun df=>(fh<|.loop .ready none fn t nt params assign body df).bind fun l=>
  aA (aG t f) fun g=>(mX Ye g [.yield l]).bind fun _=>(lN l).bind fun p=>
  M.pure (.go ⟨fn,t,nt,andThen p k,df::d,r⟩)
 |some l0=>(getLoop l0).bind fun o=>match o with
  | .loop _ _ _ _ _ _ _ _ df=>
   (fh<|.loop .ready none fn t nt params assign body df).bind fun l=>
   aA (aG t f) fun g=>(mX Ye g [.yield l]).bind fun _=>(lN l).bind fun p=>
   M.pure (.go ⟨fn,t,nt,andThen p k,d,r⟩)
  |_=>fail
def yP:oz:=fun _ fn t nt d r k=>
 match r with
 |none=>fail
 |some l=>(getLoop l).bind fun o=>match o with
  | .loop .ready bL fn1 t1 nt1 ps a b df=>(bI l<|some<|.loop .busy bL fn1 t1 nt1 ps a b df).bind fun _=>M.pure<|.go ⟨fn,t,nt,k,d,r⟩
  |_=>fail
def OC:oz:=fun _ _ _ _ _ _ _=>fail
def Vy(P:Program)(c:Code):qG oz:=
 match c with
 | .skip=>.mk qx
 | .label _=>.mk qx
 | .seq a b=>.mk<|nz [.code a,.code b]
 | .cond c a b=>.mk<|JD c a b
 | .block id b=>.mk<|nz [.code b,.inBlock id]
 | .loop b=>.mk<|nz [.code b,.inLoop b]
 | .scope b=>.mk<|nz [.code b,.inScope b]
 | .exit id=>.mk<|Dm id
 | .goto l=>.mk<|Dn l
 | .ret=>.mk Wg
 | .region _ ops false=>.mk<|Ip P ops
 | .region _ ops true=>.mk<|HU P ops
 | .rangeFunc f params a b=>.mk<|uJ f params.toList a b
 | .refuse _=>.mk OC
def uX(P:Program)(it:Item):qG oz:=
 match it with
 | .code c=>Vy P c
 | .inBlock _=>.mk qx
 | .inScope _=>.mk qx
 | .inLoop b=>.mk<|nz [.code b,.inLoop b]
 | .beginRound=>.mk yP
 |_=>.mk OC
def jg(P:Program)(Ye:aI)(fr:AF):M br:= @AF.rec (fun _=>M br) (fun fn t nt todo d r=> @List.rec Item (fun _=>M br) (M.pure<|.leave ⟨fn,t,nt,[],d,r⟩ none) (fun it k _=>(uX P it).val Ye fn t nt d r k) todo) fr
def nA(P:Program)(Ye:aI)(n:Nat):AF->M br:= @Nat.rec (fun _=>AF->M br) (jg P Ye) (fun _ ih fr=>(ih fr).bind fun x=> @br.rec (fun _=>M br) ih (fun fr j=>M.pure<|.leave fr j) x) n
def oA(P:Program)(Ye:aI)(n:Nat):Nat->AF->M br:= @Nat.rec (fun _=>Nat->AF->M br) (fun _ _=>fail) (fun _ ih k fr=>(nA P Ye k fr).bind fun x=> @br.rec (fun _=>M br) (fun fr=>ih (Nat.succ k) fr) (fun fr j=>M.pure<|.leave fr j) x) n
def Ay(P:Program)(t:Tr AV):ResultVar->M AV
  | .tmp i=>lift<|t.get i
  | .cell a ty=>do
    let a ←lift (match t.get a with
      |some x=>addrOf x
      |none=>none)
    loadVar P ty a.1 a.2
def pV(P:Program)(t:Tr AV):List ResultVar->M (List AV)
  |[]=>pure []
  | r::l=>do
    let v ←Ay P t r
    let vs ←pV P t l
    pure (v::vs)
def oh:List Nat->M Unit
  |[]=>pure ()
  | d ::l=>do
    match ←bp d with
    | .defs=>do
      bI d none
      oh l
    |_=>fail
def eh(l:List AV):Tr AV:=Tr.fill l 0 .nil
def jB:List Tmp->List AV->Tr AV->Tr AV
 |p::ps,v::vs,t=>jB ps vs<|t.put p<|some v
 |_,_,t=>t
def yz(fr:AF):Option<|Operand×Oper×Array Oper×List Oper×List Item:=
 match fr.todo with
 | .code (.region _ ops false)::k=>match ops.toList with
  |o::rest=>match o.guard,o.op with
   |none,.next it false=>some (it,o,ops,rest,k)
   |_,_=>none
  |[]=>none
 |_=>none
def rj:List α->List (α×List α)
 |[]=>[]
 |x::l=>(x,l)::(rj l).map fun(y,r)=>(y,x::r)
def mapOf(exact:Bool)(es:List<|AV×AV):ae:=
 match exact with
 |true=>.map es es.length
 |false=>.jQ es
def p9(P:Program)(Ye:aI)(fr:AF)(n:Nat)(ob:ae)(o:Oper)(ops:Array Oper)(rest:List Oper)(k:List Item)(v:AV):M AF:=do
 bI n (some ob)
 let t ←lift (jk fr.nt fr.tmps o.dst v);let t ←jl P Ye fr.nt ops rest t
 pure {fr with tmps:=t,todo:=k}
def pX(P:Program)(Ye:aI)(fr:AF)(n m:Nat)(es:List<|AV×AV)(exact:Bool)(o:Oper)(ops:Array Oper)(rest:List Oper)(k:List Item):M AF:=do
 bI n none
 bI m (some<|mapOf exact es)
 let t ←lift (jk fr.nt fr.tmps o.dst<|.tuple [.bool false]);let t ←jl P Ye fr.nt ops rest t
 pure {fr with tmps:=t,todo:=k}
def qV(fr:AF)(it:Operand):M<|Nat×ae:=do
  match ←lift (aG fr.tmps it) with
  | .ptr (some (n,0))=>do
    let o ←bp n
    pure (n,o)
  |_=>fail
def collect{β:Type}(f:α->Option (List β)):List α->Option (List β)
 |[]=>some []
 |x::l=>match f x with
  |none=>none
  |some a=>match collect f l with
   |none=>none
   |some b=>some<|a++b
def re(P:Program)(Ye:aI):Nat->AF->AS->Option (List<|(AF×Option Code)×AS)
 |0,_,_=>none
 |f+1,fr,s=>
  match yz fr with
  |some (it,o,ops,rest,k)=>
   match qV fr it s with
   | .ok (n,.iter m es exact left _) s=>
    match left with
    |[]=>match pX P Ye fr n m es exact o ops rest k s with
     | .ok fr s=>re P Ye f fr s
     | .bad=>none
    |_::_=>collect (fun(x:(AV×AV)×List (AV×AV))=>
     match p9 P Ye fr n (.iter m es exact x.2<|some x.1) o ops rest k (.tuple [.bool true,x.1.1,x.1.2]) s with
     | .ok fr s=>re P Ye f fr s
     | .bad=>none) (rj left)
   |_=>none
  |none=>match jg P Ye fr s with
   | .ok (.go fr) s=>re P Ye f fr s
   | .ok (.leave fr j) s=>some [((fr,j),s)]
   | .bad=>none
def finish(P:Program)(rs:List ResultVar)(fr:AF)(j:Option Code):M AV:=do
 jS (match j with|none|some .ret=>true|_=>false)
 oh fr.defers
 let vs ←pV P fr.tmps rs
 match vs with
 |[v]=>pure v
 |_=>pure<|.tuple vs
def wu(P:Program)(rs:List ResultVar):List ((AF×Option Code)×AS)->Option (List<|AV×AS)
 |[]=>some []
 |((fr,j),s)::l=>match finish P rs fr j s with
  | .bad=>none
  | .ok v s1=>match wu P rs l with
   |none=>none
   |some r=>some<|(v,s1)::r
def abc(a b:AV×AV):Bool:=
 match a.1,b.1 with
 | .int _ x,.int _ y=>decide<|x<y
 |_,_=>false
def UX(x:AV×AV):List (AV×AV)->List (AV×AV)
 |[]=>[x]
 |y::l=>match abc y x with
  |true=>y::UX x l
  |false=>x::y::l
def NU:List (AV×AV)->List (AV×AV)
 |[]=>[]
 |x::l=>UX x<|NU l
def Vz(k:AV):List (AV×AV)->Bool
 |[]=>false
 |(x,_)::l=>match sameKey k x with
  |some false=>Vz k l
  |_=>true
def UY:List (AV×AV)->Bool
 |[]=>true
 |(x,_)::l=>match Vz x l with
  |true=>false
  |false=>UY l
def L5:List (Nat×List (AV×AV))->Bool
 |[]=>true
 |(_,es)::l=>match UY es with
  |true=>L5 l
  |false=>false
def Nq(n:Nat)(l:List Nat):List Nat:=
 match vt n l with
 |true=>l
 |false=>n::l
def p6:List Nat->List Nat
 |[]=>[]
 |x::l=>Nq x<|p6 l
def DM(s:AS)(n:Nat):Option<|List<|AV×AV:=
 match s.h.get n with
 |some (.map es _)=>some es
 |some (.jQ es)=>some es
 |_=>none
def acG:AV->Bool
 | .int _ _=>true
 |_=>false
inductive BU where
 |none
 |nil
 |row (n:Nat) (l:List AV) (len e:Nat)
def tw(lo:Nat)(s:AS):AV->Option BU
 | .tuple []=>some .none
 | .slice none 0 (.known 0)=>some .nil
 | .slice (some (n,0)) len (.ak c e)=>match s.h.get n with
  |some (.cells k t z)=>match lr t z k 0 with
   |some l=>match (Nat.ble lo n&&Nat.blt n s.nx)&&(l.all acG&&(Nat.ble len c&&Nat.ble l.length top)) with
    |true=>some<|.row n l len e
    |false=>none
   |none=>none
  |_=>none
 |_=>none
def UZ:List (AV×AV)->List (AV×AV)->Bool
 |[],[]=>true
 |a::l,b::m=>match sameBits a.1 b.1&&sameBits a.2 b.2 with
  |true=>UZ l m
  |false=>false
 |_,_=>false
def acH:BU->BU->Bool
 | .none,.none=>true
 | .nil,.nil=>true
 | .row a l n e,.row b m k f=>Nat.beq a b&&(yF l m&&(Nat.beq n k&&Nat.beq e f))
 |_,_=>false
def CZ:AV->AV
 | .tuple (x::_)=>x
 |v=>v
def C0:AV->Option (List AV)
 | .tuple (_::l)=>some l
 |_=>none
def abd:Option (List AV)->Option (List AV)->Bool
 |none,none=>true
 |some l,some m=>yF l m
 |_,_=>false
def ML:Option (List AV)->AV->AV
 |none,x=>x
 |some l,x=>.tuple<|x::l
def FP(s:AS):List (Nat×List (AV×AV))->Bool
 |[]=>true
 |(n,es)::l=>match DM s n with
  |none=>false
  |some fs=>match UZ (NU fs) es with
   |true=>FP s l
   |false=>false
def fits(lo:Nat)(ns:List Nat)(es:List<|Nat×List (AV×AV))(r:BU)(rest:Option<|List AV):List (AV×AS)->Bool
 |[]=>true
 |(v,s)::l=>match (below lo s.wr).all (fun n=>vt n ns)&&FP s es with
  |false=>false
  |true=>match tw lo s (CZ v) with
   |none=>false
   |some q=>match acH q r&&abd (C0 v) rest with
    |true=>fits lo ns es r rest l
    |false=>false
def entriesOf(s:AS):List Nat->Option (List<|Nat×List (AV×AV))
 |[]=>some []
 |n::l=>match DM s n with
  |none=>none
  |some es=>match entriesOf s l with
   |none=>none
   |some r=>some<|(n,NU es)::r
def zc:List (Nat×List (AV×AV))->M Unit
  |[]=>pure ()
  | (n,es)::l=>do
    let _ ←AZ n
    bI n (some<|.jQ es)
    zc l
def Bo:List (AV×AS)->List Nat
 |[]=>[]
 |(_,s)::l=>s.rd++Bo l
def uE:List Nat->M Unit
  |[]=>pure ()
  | n::l=>do
    let _ ←bp n
    uE l
structure Pa where
 note:List Nat
 es:List<|Nat×List (AV×AV)
 ret:BU
 rest:Option<|List AV
 lo:Nat
 skip:Nat
def F8:List (AV×AS)->Nat
 |[]=>0
 |(_,s)::l=>max s.nx<|F8 l
def uY:Nat->M Unit
 |0=>M.pure ()
 |k+1=>(fh .defs).bind fun n=>(bI n none).bind fun _=>uY k
def Fw(lo:Nat)(outs:List<|AV×AS):Option Pa:=
 match outs with
 |[]=>none
 |(v,s1)::l=>
  match entriesOf s1 (p6<|below lo s1.wr),tw lo s1 (CZ v) with
  |some es,some r=>match fits lo (p6<|below lo s1.wr) es r (C0 v) ((v,s1)::l)&&L5 es with
   |false=>none
   |true=>some ⟨below lo<|Bo<|(v,s1)::l,es,r,C0 v,lo,F8 ((v,s1)::l) - lo⟩
  |_,_=>none
def DN(lo:Nat)(r:BU):M AV:=
 match r with
 | .none=>M.pure<|.tuple []
 | .nil=>M.pure<|.slice none 0<|.known 0
 | .row n c len e=>(uY<|n - lo).bind fun _=>(newRow c).bind fun m=>aF (Nat.beq m n) <| M.pure<|.slice (some (n,0)) len<|.ak len e
def I0(p:Pa):M AV:=(uE p.note).bind fun _=>(zc p.es).bind fun _=>(DN p.lo p.ret).bind fun v=>(uY p.skip).bind fun _=>M.pure<|ML p.rest v
def MM(P:Program)(Ye:aI)(f ntmps:Nat)(rs:List ResultVar)(body:Code)(args:List AV):AS->Option (List<|AV×AS):=fun s=>
 match re P Ye 100000 ⟨f,eh args,max ntmps args.length,[.code body],[],none⟩ s with
 |some l=>wu P rs l
 |none=>none
def Dp(P:Program)(Ye:aI)(f ntmps:Nat)(rs:List ResultVar)(body:Code)(args:List AV):M AV:=fun s=>
 match Nat.ble (max ntmps args.length) top with
 |false=>.bad
 |true=>match MM P Ye f ntmps rs body args ⟨s.h,s.nx,s.nx,[],[]⟩ with
  |none=>.bad
  |some outs=>match Fw s.nx outs with
   |none=>.bad
   |some p=>I0 p s
def depth:Nat:=24
def Fa:List AV->M AV
  | [.iface t (.map (some r))]=>do
    match ←bp r with
    | .map es aO=>do
      let n ←fh (.map es aO)
      pure (.iface t<|.map<|some n)
    | .jQ es=>do
      let n ←fh (.jQ es)
      pure (.iface t<|.map<|some n)
    |_=>fail
  |_=>fail
def T3:List AV->Option (List<|List UInt8)
 |[]=>some []
 | .str s::l=>match T3 l with
  |none=>none
  |some r=>some<|s.data.toList::r
 |_::_=>none
def L6(sep:List UInt8):List (List UInt8)->List UInt8
 |[]=>[]
 |[x]=>x
 |x::l=>x++(sep++L6 sep l)
def CE:List AV->M AV
  | [.slice a n c,.str sep]=>do
    jS (Nat.ble n<|iR n c)
    let l ←firstCells 1 n (.slice a n c)
    let ts ←lift (T3 l)
    jS (Nat.ble ((L6 sep.data.toList ts).length+n) 1048576)
    pure (.str ⟨(L6 sep.data.toList ts).toArray⟩)
  |_=>fail
def Dq(P:Program)(f ntmps:Nat)(rs:List ResultVar)(body:Code)(Ye:aI)(args:List AV):M AV:=
 aF (Nat.ble (max ntmps args.length) top) <|
 (oA P Ye depth 2 ⟨f,eh args,max ntmps args.length,[.code body],[],none⟩).bind fun st=> @br.rec (fun _=>M AV) (fun _=>fail) (fun fr j=>finish P rs fr j) st
def D9(P:Program)(iY:FuncId->Nat)(f:FuncId):qG<|aI->List AV->M AV:=
 match iY f with
 |2=>.mk fun _ args=>Fa args
 |3=>.mk fun _ args=>CE args
 |w=>match P.funcs[f]? with
  |none=>.mk fun _ _=>fail
  |some fn=>match fn.body with
   |none=>.mk fun _ _=>fail
   |some body=>match fn.name == "runtime.NumGoroutine" with
    |true=>.mk fun _ _=>fail
    |false=>match Nat.beq w 1 with
     |true=>.mk fun Ye args=>Dp P Ye f fn.ntmps fn.results.toList body args
     |false=>.mk<|Dq P f fn.ntmps fn.results.toList body
def endRound(l:Nat)(j:Option Code):M AV:=(getLoop l).bind fun o=>match o with
 | .loop _ _ fn t nt ps a b d=>(bI l<|some<|.loop (match j with|none=>.ready|some _=>.done) j fn t nt ps a b d).bind fun _=>M.pure<|.bool j.isNone
 |_=>fail
def Az(P:Program)(Ye:aI)(l:Nat)(args:List AV):M AV:=(getLoop l).bind fun o=>match o with
 | .loop _ _ fn t nt ps a b _=>
  aF (and (Nat.beq args.length ps.length)<|ps.all fun p=>Nat.blt p nt) <|
  (oA P Ye depth 2 ⟨fn,jB ps args t,nt,[.code a,.beginRound,.code b],[],some l⟩).bind fun st=> @br.rec (fun _=>M AV) (fun _=>fail) (fun _ j=>endRound l j) st
 |_=>fail
def vu(P:Program)(iY:FuncId->Nat)(n:Nat):aI:= @Nat.rec (fun _=>aI) (fun _ _=>fail) (fun _ ih t args=> @GG.rec (fun _=>M AV) (fun f=>(D9 P iY f).val ih args) (fun l=>Az P ih l args) (fun _ _ _=>fail) t) n
end
end Go.Rn
namespace Go.Rn
variable {s s1:AS} {α β:Type} {n:Nat} {f:α->M β} {o:ae} {b:β} {a:α}
structure FQ (A:Nat->Prop) (m0:Nat) (s t:AS):Prop where
 nx:s.nx=t.nx
 mark:s.mark=t.mark
 low:m0<=s.mark
 is:∀k,k<s.nx->(A k\/m0<=k)->s.h.get k=t.h.get k
structure bx (s:AS):Prop where
 mark:s.mark<=s.nx
 nx:s.nx<=top
structure mP (s s1:AS) (dr dw:List Nat):Prop where
 rd:s1.rd=dr++s.rd
 wr:s1.wr=dw++s.wr
 nx:s.nx<=s1.nx
 top:s1.nx<=top
 mark:s1.mark=s.mark
 same:∀k,k<s.mark->k ∉ dw->s1.h.get k=s.h.get k
 sub:∀k∈dw,k∈dr
 nU:∀k,s1.nx<=k->k<Rn.top->s1.h.get k=s.h.get k
theorem mP.cJ{dr dw:List Nat}(f:bx s)(d:mP s s1 dr dw):bx s1:=⟨by rw[d.mark];exact Nat.le_trans f.mark d.nx,d.top⟩
structure tJ (A:Nat->Prop) (m0:Nat) (s1 t t1:AS) (dr dw:List Nat):Prop where
 pb:FQ A m0 s1 t1
 rd:t1.rd=dr++t.rd
 wr:t1.wr=dw++t.wr
 same:∀k,k<m0->k ∉ dw->t1.h.get k=t.h.get k
 nU:∀k,s1.nx<=k->k<Rn.top->t1.h.get k=t.h.get k
def Yd(m:M α):Prop:=∀s v s1,bx s->m s= .ok v s1->∃dr dw,mP s s1 dr dw/\∀A m0 t,FQ A m0 s t->(∀k∈dr,k<m0->A k)->∃t1,m t= .ok v t1/\tJ A m0 s1 t t1 dr dw
theorem M.bK{m:M α}(h:m s= .ok a s1):(m.bind f) s=f a s1:=by unfold M.bind;rw[h]
theorem M.abe{m:M α}(h:m s= .bad):(m.bind f) s= .bad:=by unfold M.bind;rw[h]
theorem M.aP{m:M α}{s2:AS}(h:(m.bind f) s= .ok b s2):∃a s1,m s= .ok a s1/\f a s1= .ok b s2:=by
 cases e:m s with
 |bad=>rw[M.abe e] at h;cases h
 |ok a s1=>rw[M.bK e] at h;exact⟨a,s1,rfl,h⟩
theorem bind_eq(m:M α)(f:α->M β):(m >>= f)=m.bind f:=rfl
theorem acI(a:α):(pure a:M α)=M.pure a:=rfl
theorem cf(a:α)(f:α->M β):aA (some a) f=f a:=rfl
theorem dB(m:M β):aF true m=m:=rfl
theorem bt{o:Option α}(h:aA o f s= .ok b s1):∃a,o=some a/\f a s= .ok b s1:=by
 cases o with
 |none=>cases h
 |some a=>exact⟨a,rfl,h⟩
theorem cW{c:Bool}{m:M β}(h:aF c m s= .ok b s1):c=true/\m s= .ok b s1:=by
 cases c with
 |false=>cases h
 |true=>exact⟨rfl,h⟩
theorem bD{b:α}(h:M.pure a s= .ok b s1):b=a/\s1=s:=by cases h;exact⟨rfl,rfl⟩
theorem hI{o:Option α}{b:α}(h:lift o s= .ok b s1):o=some b/\s1=s:=by
 cases o with
 |none=>cases h
 |some a=>cases h;exact⟨rfl,rfl⟩
theorem Yd.pure(a:α):Yd<|M.pure a:=by intro s v s1 fi h;obtain⟨rfl,rfl⟩:=bD h;exact⟨[],[],⟨rfl,rfl,Nat.le_refl _,fi.nx,rfl,fun _ _ _=>rfl,fun _ h=>h,fun _ _ _=>rfl⟩,fun A m0 t ag _=>⟨t,rfl,ag,rfl,rfl,fun _ _ _=>rfl,fun _ _ _=>rfl⟩⟩
theorem Yd.fail{α:Type}:Yd (fail:M α):=by intro s v s1 _ h;cases h
theorem Yd.aA{α β:Type}{o:Option α}{f:α->M β}(h:∀a,o=some a->Yd (f a)):Yd<|aA o f:=by
 cases o with
 |none=>exact Yd.fail
 |some a=>exact h a rfl
theorem Yd.aF{β:Type}{c:Bool}{m:M β}(h:c=true->Yd m):Yd<|aF c m:=by
 cases c with
 |false=>exact Yd.fail
 |true=>exact h rfl
theorem Yd.lift{α:Type}(o:Option α):Yd<|lift o:=by
 cases o with
 |none=>exact Yd.fail
 |some a=>exact Yd.pure a
theorem Yd.jS(b:Bool):Yd<|jS b:=by
 cases b with
 |false=>exact Yd.fail
 |true=>exact Yd.pure ()
theorem Yd.bind{m:M α}(hm:Yd m)(hf:∀a,Yd<|f a):Yd<|m.bind f:=by
 intro s v s2 fi h;obtain⟨a,s1,h1,h2⟩:=M.aP h;obtain⟨dr,dw,d,x⟩:=hm s a s1 fi h1;obtain⟨rR,nV,d',x'⟩:=hf a s1 v s2 (d.cJ fi) h2;refine⟨rR++dr,nV++dw,⟨by rw[d'.rd,d.rd,List.append_assoc],by rw[d'.wr,d.wr,List.append_assoc],Nat.le_trans d.nx d'.nx,d'.top,d'.mark.trans d.mark,?_,?_,?_⟩,?_⟩
 ·intro k hk hn;have tX:k ∉ nV:=fun e=>hn<|List.mem_append.2<|.inl e;have oK:k ∉ dw:=fun e=>hn<|List.mem_append.2<|.inr e;exact(d'.same k (by rw[d.mark];exact hk) tX).trans<|d.same k hk oK
 ·intro k hk;rcases List.mem_append.1 hk with e|e
  ·exact List.mem_append.2<|.inl<|d'.sub k e
  ·exact List.mem_append.2<|.inr<|d.sub k e
 ·intro k hk ht;exact(d'.nU k hk ht).trans<|d.nU k (Nat.le_trans d'.nx hk) ht
 ·intro A m0 t ag hA;obtain⟨t1,e1,al⟩:=x A m0 t ag fun k hk bJ=>hA k (List.mem_append.2<|.inr hk) bJ;obtain⟨t2,e2,qH⟩:=x' A m0 t1 al.pb fun k hk bJ=>hA k (List.mem_append.2<|.inl hk) bJ;refine⟨t2,by rw[M.bK e1];exact e2,qH.pb,by rw[qH.rd,al.rd,List.append_assoc],by rw[qH.wr,al.wr,List.append_assoc],?_,?_⟩
  ·intro k hk hn;have tX:k ∉ nV:=fun e=>hn<|List.mem_append.2<|.inl e;have oK:k ∉ dw:=fun e=>hn<|List.mem_append.2<|.inr e;exact(qH.same k hk tX).trans<|al.same k hk oK
  ·intro k hk ht;exact(qH.nU k hk ht).trans<|al.nU k (Nat.le_trans d'.nx hk) ht
theorem blt_eq(n m:Nat):(Nat.blt n m=true)=(n<m):=by show(Nat.ble (n+1) m=true)=_;rw[Nat.ble_eq];rfl
theorem yG(a b:α)(n m:Nat): @Bool.rec (fun _=>α) a b (Nat.blt n m)=if n<m then b else a:=by
 rw[MI];by_cases h:n<m
 ·rw[if_pos h,if_pos (by rw[blt_eq];exact h)]
 ·rw[if_neg h,if_neg (by rw[blt_eq];exact h)]
theorem Iq(h:bp n s= .ok o s1):
 n<s.nx/\s.h.get n=some o/\s1=if n<s.mark then{s with rd:=n::s.rd} else s:=by
 obtain⟨hh,nx,mark,rd,wr⟩:=s;cases hb:Nat.blt n nx with
 |false=>
  have:bp n ⟨hh,nx,mark,rd,wr⟩= .bad:=by show @Bool.rec (fun _=>R ae) .bad _ (Nat.blt n nx)=_;rw[hb]
  rw[this] at h;cases h
 |true=>
  cases hg:hh.get n with
  |none=>
   have:bp n ⟨hh,nx,mark,rd,wr⟩= .bad:=by show @Bool.rec (fun _=>R ae) .bad (@Option.rec ae (fun _=>R ae) .bad _<|hh.get n) (Nat.blt n nx)=_;rw[hb,hg]
   rw[this] at h;cases h
  |some o'=>
   have:bp n ⟨hh,nx,mark,rd,wr⟩= @Bool.rec (fun _=>R ae) (.ok o' ⟨hh,nx,mark,rd,wr⟩) (.ok o' ⟨hh,nx,mark,n::rd,wr⟩) (Nat.blt n mark):=by show @Bool.rec (fun _=>R ae) .bad (@Option.rec ae (fun _=>R ae) .bad _<|hh.get n) (Nat.blt n nx)=_;rw[hb,hg]
   rw[this] at h;have bJ:n<nx:=by rw[←blt_eq];exact hb
   cases hm:Nat.blt n mark with
   |false=>
    rw[hm] at h;cases h;have:¬n<mark:=by rw[←blt_eq,hm];simp
    exact⟨bJ,by first|exact hg|rfl,by simp[this]⟩
   |true=>
    rw[hm] at h;cases h;have:n<mark:=by rw[←blt_eq];exact hm
    exact⟨bJ,by first|exact hg|rfl,by simp[this]⟩
theorem U0(h1:n<s.nx)(h2:s.h.get n=some o):
 bp n s= .ok o (if n<s.mark then{s with rd:=n::s.rd} else s):=by
 obtain⟨hh,nx,mark,rd,wr⟩:=s;have hb:Nat.blt n nx=true:=by rw[blt_eq];exact h1
 have hg:hh.get n=some o:=h2;show @Bool.rec (fun _=>R ae) .bad (@Option.rec ae (fun _=>R ae) .bad (fun o=> @Bool.rec (fun _=>R ae) (.ok o ⟨hh,nx,mark,rd,wr⟩) (.ok o ⟨hh,nx,mark,n::rd,wr⟩)<|Nat.blt n mark)<|hh.get n) (Nat.blt n nx)=_;rw[hb,hg];show @Bool.rec (fun _=>R ae) _ _ (Nat.blt n mark)=_;rw[yG];by_cases e:n<mark<;>simp[e]
theorem T4{o:Option ae}{u:Unit}(h:bI n o s= .ok u s1):
 n<s.nx/\n<top/\(∃p,s.h.get n=some p/\p.di=false)/\s1=if n<s.mark then{s with h:=s.h.put n o,rd:=n::s.rd,wr:=n::s.wr} else{s with h:=s.h.put n o}:=by
 obtain⟨hh,nx,mark,rd,wr⟩:=s;have e:bI n o ⟨hh,nx,mark,rd,wr⟩= @Bool.rec (fun _=>R Unit) .bad
  (@Option.rec ae (fun _=>R Unit) .bad
   (fun p=> @Bool.rec (fun _=>R Unit)
    (@Bool.rec (fun _=>R Unit) (.ok () ⟨hh.put n o,nx,mark,rd,wr⟩) (.ok () ⟨hh.put n o,nx,mark,n::rd,n::wr⟩)<|Nat.blt n mark)
    .bad p.di)
   (hh.get n))
  (and (Nat.blt n nx)<|Nat.blt n top):=rfl
 rw[e] at h;cases hb:and (Nat.blt n nx) (Nat.blt n top) with
 |false=>rw[hb] at h;cases h
 |true=>
  rw[hb] at h;have gm:=Bool.and_eq_true_iff.1 hb;rw[blt_eq,blt_eq] at gm;cases hg:hh.get n with
  |none=>rw[hg] at h;cases h
  |some p=>
   rw[hg] at h;cases hr:p.di with
   |true=>
    have h': @Bool.rec (fun _=>R Unit)
     (@Bool.rec (fun _=>R Unit) (.ok () ⟨hh.put n o,nx,mark,rd,wr⟩) (.ok () ⟨hh.put n o,nx,mark,n::rd,n::wr⟩)<|Nat.blt n mark)
     .bad p.di= .ok u s1:=h
    rw[hr] at h';cases h'
   |false=>
    have h': @Bool.rec (fun _=>R Unit)
     (@Bool.rec (fun _=>R Unit) (.ok () ⟨hh.put n o,nx,mark,rd,wr⟩) (.ok () ⟨hh.put n o,nx,mark,n::rd,n::wr⟩)<|Nat.blt n mark)
     .bad p.di= .ok u s1:=h
    rw[hr] at h';refine⟨gm.1,gm.2,⟨p,by first|exact hg|rfl,hr⟩,?_⟩;have tY: @Bool.rec (fun _=>R Unit) (.ok () ⟨hh.put n o,nx,mark,rd,wr⟩) (.ok () ⟨hh.put n o,nx,mark,n::rd,n::wr⟩) (Nat.blt n mark)= .ok u s1:=h';rw[yG] at tY;by_cases e:n<mark
    ·rw[if_pos e] at tY;injection tY with _ h3;simp[e, ←h3]
    ·rw[if_neg e] at tY;injection tY with _ h3;simp[e, ←h3]
theorem NV{o:Option ae}{p:ae}(h1:n<s.nx)(h2:n<top)(h3:s.h.get n=some p)(h4:p.di=false):
 bI n o s= .ok () (if n<s.mark then{s with h:=s.h.put n o,rd:=n::s.rd,wr:=n::s.wr} else{s with h:=s.h.put n o}):=by
 obtain⟨hh,nx,mark,rd,wr⟩:=s;have e:bI n o ⟨hh,nx,mark,rd,wr⟩= @Bool.rec (fun _=>R Unit) .bad
  (@Option.rec ae (fun _=>R Unit) .bad
   (fun p=> @Bool.rec (fun _=>R Unit)
    (@Bool.rec (fun _=>R Unit) (.ok () ⟨hh.put n o,nx,mark,rd,wr⟩) (.ok () ⟨hh.put n o,nx,mark,n::rd,n::wr⟩)<|Nat.blt n mark)
    .bad p.di)
   (hh.get n))
  (and (Nat.blt n nx)<|Nat.blt n top):=rfl
 have hb:and (Nat.blt n nx) (Nat.blt n top)=true:=Bool.and_eq_true_iff.2 ⟨by rw[blt_eq];exact h1,by rw[blt_eq];exact h2⟩;have hg:hh.get n=some p:=h3;rw[e,hb,hg];show @Bool.rec (fun _=>R Unit) (@Bool.rec (fun _=>R Unit) (.ok () ⟨hh.put n o,nx,mark,rd,wr⟩) (.ok () ⟨hh.put n o,nx,mark,n::rd,n::wr⟩)<|Nat.blt n mark) .bad p.di=_;rw[h4];show @Bool.rec (fun _=>R Unit) (.ok () ⟨hh.put n o,nx,mark,rd,wr⟩) (.ok () ⟨hh.put n o,nx,mark,n::rd,n::wr⟩) (Nat.blt n mark)=_;rw[yG];by_cases e:n<mark<;>simp[e]
theorem uB(h:fh o s= .ok n s1):s.nx<top/\n=s.nx/\s1={s with h:=s.h.put s.nx<|some o,nx:=s.nx+1}:=by
 obtain⟨hh,nx,mark,rd,wr⟩:=s;have e:fh o ⟨hh,nx,mark,rd,wr⟩= @Bool.rec (fun _=>R Nat) .bad (forced nx fun m=>.ok m ⟨hh.put m<|some o,m+1,mark,rd,wr⟩) (Nat.blt nx top):=rfl;rw[e,yx] at h;cases hb:Nat.blt nx top with
 |false=>rw[hb] at h;cases h
 |true=>rw[hb] at h;cases h;exact⟨by rw[←blt_eq];exact hb,rfl,rfl⟩
theorem T5(h:s.nx<top):fh o s= .ok s.nx {s with h:=s.h.put s.nx<|some o,nx:=s.nx+1}:=by
 obtain⟨hh,nx,mark,rd,wr⟩:=s;have e:fh o ⟨hh,nx,mark,rd,wr⟩= @Bool.rec (fun _=>R Nat) .bad (forced nx fun m=>.ok m ⟨hh.put m<|some o,m+1,mark,rd,wr⟩) (Nat.blt nx top):=rfl;have hb:Nat.blt nx top=true:=by rw[blt_eq];exact h
 rw[e,yx,hb]
theorem Yd.bp(n:Nat):Yd<|bp n:=by
 intro s v s1 fi h;obtain⟨h1,h2,rfl⟩:=Iq h;by_cases e:n<s.mark
 ·rw[if_pos e];refine⟨[n],[],⟨rfl,rfl,Nat.le_refl _,fi.nx,rfl,fun _ _ _=>rfl,fun _ h=>(by cases h),fun _ _ _=>rfl⟩,fun A m0 t ag hA=>?_⟩;have hq:A n\/m0<=n:=by
   by_cases q:n<m0
   ·exact .inl<|hA n iJ q
   ·exact .inr aj
  have hg:=ag.is n h1 hq;have hr:=U0 (o:=v) (s:=t) (n:=n) D7 D8;rw[←ag.mark,if_pos e] at hr;exact⟨_,hr,⟨ag.nx,by first|exact ag.mark|rfl,ag.low,ag.is⟩,rfl,rfl,fun _ _ _=>rfl,fun _ _ _=>rfl⟩
 ·rw[if_neg e];refine⟨[],[],⟨rfl,rfl,Nat.le_refl _,fi.nx,rfl,fun _ _ _=>rfl,fun _ h=>(by cases h),fun _ _ _=>rfl⟩,fun A m0 t ag hA=>?_⟩;have hg:=ag.is n h1<|.inr<|Nat.le_trans ag.low aj;have hr:=U0 (o:=v) (s:=t) (n:=n) D7 D8;rw[←ag.mark,if_neg e] at hr;exact⟨_,hr,ag,rfl,rfl,fun _ _ _=>rfl,fun _ _ _=>rfl⟩
theorem Yd.bI(n:Nat)(o:Option ae):Yd<|bI n o:=by
 intro s v s1 fi h;obtain⟨h1,ht,⟨p,h2,h3⟩,rfl⟩:=T4 h;by_cases e:n<s.mark
 ·rw[if_pos e];refine⟨[n],[n],⟨rfl,rfl,Nat.le_refl _,fi.nx,rfl,fun k hk hn=>?_,fun _ h=>h,fun k hk gp=>?_⟩,fun A m0 t ag hA=>?_⟩
  ·show(s.h.put n o).get k=_;rw[Tr.dk _ _ _ _ ht (by have:=fi.mark;have:=fi.nx;omega),if_neg<|by simpa using hn]
  ·show(s.h.put n o).get k=_;have:s.nx<=k:=hk;rw[Tr.dk _ _ _ _ ht gp,if_neg aj]
  ·have hq:A n\/m0<=n:=by
    by_cases q:n<m0
    ·exact .inl<|hA n iJ q
    ·exact .inr aj
   have hg:=ag.is n h1 hq;have hr:=NV (o:=o) (s:=t) (n:=n) (p:=p) D7 ht D8 h3;rw[←ag.mark,if_pos e] at hr;refine⟨_,hr,⟨ag.nx,by first|exact ag.mark|rfl,ag.low,fun k hk hq=>?_⟩,rfl,rfl,fun k hk hn=>?_,fun k hk gp=>?_⟩
   ·show(s.h.put n o).get k=(t.h.put n o).get k;have GI:k<s.nx:=hk;have:=fi.nx;rw[Tr.dk _ _ _ _ ht aj,Tr.dk _ _ _ _ ht aj];by_cases q:k=n
    ·simp[q]
    ·rw[if_neg q,if_neg q];exact ag.is k hk hq
   ·show(t.h.put n o).get k=_;have:=fi.mark;have:=fi.nx;have:=ag.low;rw[Tr.dk _ _ _ _ ht aj,if_neg<|by simpa using hn]
   ·show(t.h.put n o).get k=_;have:s.nx<=k:=hk;rw[Tr.dk _ _ _ _ ht gp,if_neg aj]
 ·rw[if_neg e];refine⟨[],[],⟨rfl,rfl,Nat.le_refl _,fi.nx,rfl,fun k hk hn=>?_,fun _ h=>h,fun k hk gp=>?_⟩,fun A m0 t ag hA=>?_⟩
  ·show(s.h.put n o).get k=_;have:=fi.mark;have:=fi.nx;rw[Tr.dk _ _ _ _ ht aj,if_neg aj]
  ·show(s.h.put n o).get k=_;have:s.nx<=k:=hk;rw[Tr.dk _ _ _ _ ht gp,if_neg aj]
  ·have hg:=ag.is n h1<|.inr<|Nat.le_trans ag.low aj;have hr:=NV (o:=o) (s:=t) (n:=n) (p:=p) D7 ht D8 h3;rw[←ag.mark,if_neg e] at hr;refine⟨_,hr,⟨ag.nx,by first|exact ag.mark|rfl,ag.low,fun k hk hq=>?_⟩,rfl,rfl,fun k hk hn=>?_,fun k hk gp=>?_⟩
   ·show(s.h.put n o).get k=(t.h.put n o).get k;have GI:k<s.nx:=hk;have:=fi.nx;rw[Tr.dk _ _ _ _ ht aj,Tr.dk _ _ _ _ ht aj];by_cases q:k=n
    ·simp[q]
    ·rw[if_neg q,if_neg q];exact ag.is k hk hq
   ·show(t.h.put n o).get k=_;have:=fi.mark;have:=fi.nx;have:=ag.low;rw[Tr.dk _ _ _ _ ht aj,if_neg aj]
   ·show(t.h.put n o).get k=_;have:s.nx<=k:=hk;rw[Tr.dk _ _ _ _ ht gp,if_neg aj]
theorem Yd.fh(o:ae):Yd<|fh o:=by
 intro s v s1 fi h;obtain⟨ht,rfl,rfl⟩:=uB h;refine⟨[],[],⟨rfl,rfl,Nat.le_succ _,ht,rfl,fun k hk hn=>?_,fun _ h=>h,fun k hk gp=>?_⟩,fun A m0 t ag hA=>?_⟩
 ·show(s.h.put s.nx<|some o).get k=_;have:=fi.mark;have:=fi.nx;rw[Tr.dk _ _ _ _ ht aj,if_neg aj]
 ·show(s.h.put s.nx<|some o).get k=_;have:s.nx+1<=k:=hk;rw[Tr.dk _ _ _ _ ht gp,if_neg aj]
 ·have hr:=T5 (o:=o) (s:=t) (by rw[←ag.nx];exact ht);rw[←ag.nx] at hr;refine⟨_,hr,⟨rfl,ag.mark,ag.low,fun k hk hq=>?_⟩,rfl,rfl,fun k hk hn=>?_,fun k hk gp=>?_⟩
  ·show(s.h.put s.nx<|some o).get k=(t.h.put s.nx<|some o).get k;have GI:k<s.nx+1:=hk;rw[Tr.dk _ _ _ _ ht aj,Tr.dk _ _ _ _ ht aj];by_cases q:k=s.nx
   ·simp[q]
   ·rw[if_neg q,if_neg q];exact ag.is k aj hq
  ·show(t.h.put s.nx<|some o).get k=_;have:=fi.mark;have:=fi.nx;have:=ag.low;rw[Tr.dk _ _ _ _ ht aj,if_neg aj]
  ·show(t.h.put s.nx<|some o).get k=_;have:s.nx+1<=k:=hk;rw[Tr.dk _ _ _ _ ht gp,if_neg aj]
end Go.Rn
namespace Go.Rn
theorem Yd.je(n off k:Nat):Yd<|je n off k:=by
 cases k with
 |zero=>exact Yd.pure _
 |succ k=>
  unfold Rn.je
  repeat' (first
  |exact Yd.pure _|exact Yd.fail|exact Yd.lift _|exact Yd.bp _
  |refine Yd.aA (fun _ _=>?_)|refine Yd.aF (fun _=>?_)|refine Yd.bind ?_ (fun _=>?_)
  |split)
theorem Yd.qQ(n off:Nat)(l:List AV):Yd<|qQ n off l:=by
 unfold Rn.qQ
 repeat' (first
  |exact Yd.pure _|exact Yd.fail|exact Yd.bp _|exact Yd.bI _ _
  |exact Yd.fail
  |refine Yd.aA (fun _ _=>?_)|refine Yd.aF (fun _=>?_)|refine Yd.bind ?_ (fun _=>?_)
  |split)
theorem Yd.newRow(l:List AV):Yd<|newRow l:=by
 unfold Rn.newRow
 repeat' (first
  |exact Yd.pure _|exact Yd.fail|exact Yd.fh _
  |exact Yd.fail
  |refine Yd.aA (fun _ _=>?_)|refine Yd.aF (fun _=>?_)|refine Yd.bind ?_ (fun _=>?_)
  |split)
theorem Yd.loadVar(P:Program)(t:TypeId)(n off:Nat):Yd<|loadVar P t n off:=by
 unfold Rn.loadVar
 repeat' (first
  |exact Yd.pure _|exact Yd.fail|exact Yd.lift _
  |exact Yd.fail|exact Yd.je _ _ _
  |refine Yd.aA (fun _ _=>?_)|refine Yd.aF (fun _=>?_)|refine Yd.bind ?_ (fun _=>?_)
  |split)
theorem Yd.wJ(P:Program)(t:TypeId)(n off:Nat):Yd<|wJ P t n off:=by
 unfold Rn.wJ
 repeat' (first
  |exact Yd.pure _|exact Yd.fail|exact Yd.lift _|exact Yd.bp _
  |exact Yd.fail
  |refine Yd.aA (fun _ _=>?_)|refine Yd.aF (fun _=>?_)|refine Yd.bind ?_ (fun _=>?_)
  |split)
theorem Yd.uI(P:Program)(t:TypeId){Ye:aI}(bC:∀t a,Yd<|Ye t a)(n o:Nat):Yd<|uI P t Ye n o:=by
 unfold Rn.uI
 repeat' (first
  |exact Yd.pure _|exact Yd.fail|exact Yd.lift _
  |exact bC _ _
  |refine Yd.aA (fun _ _=>?_)|refine Yd.aF (fun _=>?_)|refine Yd.bind ?_ (fun _=>?_)
  |split)
theorem Yd.loadAt(P:Program)(t:TypeId){Ye:aI}(bC:∀t a,Yd<|Ye t a)(a:AV):Yd<|loadAt P t Ye a:=by
 unfold Rn.loadAt
 repeat' (first
  |exact Yd.pure _|exact Yd.fail
  |exact bC _ _|exact Yd.loadVar _ _ _ _|exact Yd.wJ _ _ _ _|exact Yd.uI _ _ bC _ _
  |refine Yd.aA (fun _ _=>?_)|refine Yd.aF (fun _=>?_)|refine Yd.bind ?_ (fun _=>?_)
  |split)
theorem Yd.storeVar(P:Program)(t:TypeId)(n off:Nat)(v:AV):Yd<|storeVar P t n off v:=by
 unfold Rn.storeVar
 repeat' (first
  |exact Yd.pure _|exact Yd.fail
  |exact Yd.fail|exact Yd.qQ _ _ _
  |refine Yd.aA (fun _ _=>?_)|refine Yd.aF (fun _=>?_)|refine Yd.bind ?_ (fun _=>?_)
  |split)
theorem Yd.buildSlice(P:Program)(t:TypeId)(len:Nat)(parts:List<|Nat×AV):Yd<|buildSlice P t len parts:=by
 unfold Rn.buildSlice
 repeat' (first
  |exact Yd.pure _|exact Yd.fail|exact Yd.lift _|exact Yd.jS _
  |exact Yd.fail|exact Yd.newRow _
  |refine Yd.aA (fun _ _=>?_)|refine Yd.aF (fun _=>?_)|refine Yd.bind ?_ (fun _=>?_)
  |split)
theorem Yd.makeSlice(P:Program)(t:TypeId)(len cap:AV):Yd<|makeSlice P t len cap:=by
 unfold Rn.makeSlice
 repeat' (first
  |exact Yd.pure _|exact Yd.fail|exact Yd.fh _
  |exact Yd.fail
  |refine Yd.aA (fun _ _=>?_)|refine Yd.aF (fun _=>?_)|refine Yd.bind ?_ (fun _=>?_)
  |split)
theorem Yd.firstCells(size n:Nat)(v:AV):Yd<|firstCells size n v:=by
 unfold Rn.firstCells
 repeat' (first
  |exact Yd.pure _|exact Yd.fail
  |exact Yd.fail|exact Yd.je _ _ _
  |refine Yd.aA (fun _ _=>?_)|refine Yd.aF (fun _=>?_)|refine Yd.bind ?_ (fun _=>?_)
  |split)
theorem Yd.grown(a b c:Nat)(l m:List AV):Yd<|grown a b c l m:=by
 unfold Rn.grown
 repeat' (first
  |exact Yd.pure _|exact Yd.fail
  |exact Yd.fail|exact Yd.newRow _
  |refine Yd.aA (fun _ _=>?_)|refine Yd.aF (fun _=>?_)|refine Yd.bind ?_ (fun _=>?_)
  |split)
theorem Yd.wt(n off:Nat)(l:List AV):Yd<|wt n off l:=by
 unfold Rn.wt
 repeat' (first
  |exact Yd.pure _|exact Yd.fail|exact Yd.bp _|exact Yd.bI _ _
  |exact Yd.fail
  |refine Yd.aA (fun _ _=>?_)|refine Yd.aF (fun _=>?_)|refine Yd.bind ?_ (fun _=>?_)
  |split)
theorem Yd.qR(size bytes:Nat)(base:Option<|Nat×Nat)(len:Nat)(cap:cL)(n:Nat)(new:List AV):Yd<|qR size bytes base len cap n new:=by
 unfold Rn.qR
 repeat' (first
  |exact Yd.pure _|exact Yd.fail|exact Yd.bp _|exact Yd.bI _ _
  |exact Yd.fail|exact Yd.je _ _ _|exact Yd.qQ _ _ _|exact Yd.firstCells _ _ _|exact Yd.grown _ _ _ _ _|exact Yd.wt _ _ _
  |refine Yd.aA (fun _ _=>?_)|refine Yd.aF (fun _=>?_)|refine Yd.bind ?_ (fun _=>?_)
  |split)
theorem Yd.oX(P:Program)(ts:Array TypeId)(s x:AV):Yd<|oX P ts s x:=by
 unfold Rn.oX
 repeat' (first
  |exact Yd.pure _|exact Yd.fail
  |exact Yd.fail|exact Yd.firstCells _ _ _|exact Yd.qR _ _ _ _ _ _ _
  |refine Yd.aA (fun _ _=>?_)|refine Yd.aF (fun _=>?_)|refine Yd.bind ?_ (fun _=>?_)
  |split)
theorem Yd.yN(P:Program)(ts:Array TypeId)(s x:AV):Yd<|yN P ts s x:=by
 unfold Rn.yN
 repeat' (first
  |exact Yd.pure _|exact Yd.fail
  |exact Yd.fail|exact Yd.qQ _ _ _|exact Yd.firstCells _ _ _
  |refine Yd.aA (fun _ _=>?_)|refine Yd.aF (fun _=>?_)|refine Yd.bind ?_ (fun _=>?_)
  |split)
theorem Yd.AZ(r:Nat):Yd<|AZ r:=by
 unfold Rn.AZ
 repeat' (first
  |exact Yd.pure _|exact Yd.fail|exact Yd.bp _
  |exact Yd.fail
  |refine Yd.aA (fun _ _=>?_)|refine Yd.aF (fun _=>?_)|refine Yd.bind ?_ (fun _=>?_)
  |split)
theorem Yd.yO(P:Program)(k:TypeId)(a x:AV):Yd<|yO P k a x:=by
 unfold Rn.yO
 repeat' (first
  |exact Yd.pure _|exact Yd.fail|exact Yd.bp _
  |exact Yd.fail
  |refine Yd.aA (fun _ _=>?_)|refine Yd.aF (fun _=>?_)|refine Yd.bind ?_ (fun _=>?_)
  |split)
theorem Yd.Dl(r:Nat)(a b:AV)(l:List<|AV×AV)(c:Nat)(f:Option<|Nat×AV):Yd<|Dl r a b l c f:=by
 unfold Rn.Dl
 repeat' (first
  |exact Yd.pure _|exact Yd.fail|exact Yd.bI _ _
  |exact Yd.fail
  |refine Yd.aA (fun _ _=>?_)|refine Yd.aF (fun _=>?_)|refine Yd.bind ?_ (fun _=>?_)
  |split)
theorem Yd.Au(r:Nat)(a b:AV)(l:List<|AV×AV)(f:Option<|Nat×AV):Yd<|Au r a b l f:=by
 unfold Rn.Au
 repeat' (first
  |exact Yd.pure _|exact Yd.fail|exact Yd.bI _ _
  |exact Yd.fail
  |refine Yd.aA (fun _ _=>?_)|refine Yd.aF (fun _=>?_)|refine Yd.bind ?_ (fun _=>?_)
  |split)
theorem Yd.yE(P:Program)(t:TypeId)(x k:AV)(ok:Bool):Yd<|yE P t x k ok:=by
 unfold Rn.yE
 repeat' (first
  |exact Yd.pure _|exact Yd.fail
  |exact Yd.fail|exact Yd.yO _ _ _ _
  |refine Yd.aA (fun _ _=>?_)|refine Yd.aF (fun _=>?_)|refine Yd.bind ?_ (fun _=>?_)
  |split)
theorem Yd.wV(P:Program)(t:TypeId)(m k v:AV):Yd<|wV P t m k v:=by
 unfold Rn.wV
 repeat' (first
  |exact Yd.pure _|exact Yd.fail|exact Yd.bp _
  |exact Yd.fail|exact Yd.Dl _ _ _ _ _ _|exact Yd.Au _ _ _ _ _
  |refine Yd.aA (fun _ _=>?_)|refine Yd.aF (fun _=>?_)|refine Yd.bind ?_ (fun _=>?_)
  |split)
theorem Yd.zt(P:Program)(ts:Array TypeId)(x:AV):Yd<|zt P ts x:=by
 unfold Rn.zt
 repeat' (first
  |exact Yd.pure _|exact Yd.fail|exact Yd.lift _
  |exact Yd.fail|exact Yd.AZ _
  |refine Yd.aA (fun _ _=>?_)|refine Yd.aF (fun _=>?_)|refine Yd.bind ?_ (fun _=>?_)
  |split)
theorem Yd.yy(P:Program)(b:Builtin)(ts:Array TypeId)(l:List AV):Yd<|yy P b ts l:=by
 unfold Rn.yy
 repeat' (first
  |exact Yd.pure _|exact Yd.fail|exact Yd.lift _
  |exact Yd.fail|exact Yd.oX _ _ _ _|exact Yd.yN _ _ _ _|exact Yd.zt _ _ _|exact Yd.aem _ _ _
  |refine Yd.aA (fun _ _=>?_)|refine Yd.aF (fun _=>?_)|refine Yd.bind ?_ (fun _=>?_)
  |split)
theorem Yd.AI(P:Program)(a:TypeId)(x:AV):Yd<|AI P a x:=by
 unfold Rn.AI
 repeat' (first
  |exact Yd.pure _|exact Yd.fail|exact Yd.bp _|exact Yd.bI _ _|exact Yd.fh _
  |exact Yd.fail
  |refine Yd.aA (fun _ _=>?_)|refine Yd.aF (fun _=>?_)|refine Yd.bind ?_ (fun _=>?_)
  |split)
theorem Yd.CP(x:AV):Yd<|CP x:=by
 unfold Rn.CP
 repeat' (first
  |exact Yd.pure _|exact Yd.fail|exact Yd.bp _
  |exact Yd.fail
  |refine Yd.aA (fun _ _=>?_)|refine Yd.aF (fun _=>?_)|refine Yd.bind ?_ (fun _=>?_)
  |split)
theorem Yd.sB{Ye:aI}(bC:∀t a,Yd<|Ye t a)(n o k:Nat):Yd<|sB Ye n o k:=by
 unfold Rn.sB
 repeat' (first
  |exact Yd.pure _|exact Yd.fail
  |exact bC _ _
  |refine Yd.aA (fun _ _=>?_)|refine Yd.aF (fun _=>?_)|refine Yd.bind ?_ (fun _=>?_)
  |split)
theorem Yd.mX{Ye:aI}(bC:∀t a,Yd<|Ye t a)(f:AV)(l:List AV):Yd<|mX Ye f l:=by
 unfold Rn.mX
 repeat' (first
  |exact Yd.pure _|exact Yd.fail
  |exact bC _ _
  |refine Yd.aA (fun _ _=>?_)|refine Yd.aF (fun _=>?_)|refine Yd.bind ?_ (fun _=>?_)
  |split)
theorem Yd.GH(P:Program){Ye:aI}(bC:∀t a,Yd<|Ye t a)(t:Tr AV)(op:Op):Yd<|GH P Ye t op:=by unfold Rn.GH Rn.dG;split<;>simp only[qG.val]<;>(first|unfold Rn.uW|unfold Rn.Bm|unfold Rn.IZ|unfold Rn.Bz|unfold Rn.A0|unfold Rn.Ai|unfold Rn.ti|unfold Rn.wW|unfold Rn.Am|unfold Rn.tI|unfold Rn.BT|unfold Rn.Av|unfold Rn.Cr|unfold Rn.An|unfold Rn.Aw|unfold Rn.Ak|unfold Rn.sM|unfold Rn.Al|unfold Rn.A3|unfold Rn.pU|unfold Rn.A4|unfold Rn.wK|unfold Rn.pZ|unfold Rn.CO|unfold Rn.A5|unfold Rn.A6|unfold Rn.CD|unfold Rn.Ax|unfold Rn.og|unfold Rn.tj|unfold Rn.Np|unfold Rn.Vx)<;>(repeat' (first|exact Yd.pure _|exact Yd.fail|exact Yd.lift _|exact Yd.jS _|exact Yd.bp _|exact Yd.bI _ _|exact Yd.fh _|exact bC _ _|exact Yd.je _ _ _|exact Yd.qQ _ _ _|exact Yd.newRow _|exact Yd.loadVar _ _ _ _|exact Yd.wJ _ _ _ _|exact Yd.loadAt _ _ bC _|exact Yd.storeVar _ _ _ _ _|exact Yd.buildSlice _ _ _ _|exact Yd.makeSlice _ _ _ _|exact Yd.firstCells _ _ _|exact Yd.grown _ _ _ _ _|exact Yd.wt _ _ _|exact Yd.qR _ _ _ _ _ _ _|exact Yd.oX _ _ _ _|exact Yd.yN _ _ _ _|exact Yd.AZ _|exact Yd.yO _ _ _ _|exact Yd.Dl _ _ _ _ _ _|exact Yd.Au _ _ _ _ _|exact Yd.yE _ _ _ _ _|exact Yd.wV _ _ _ _ _|exact Yd.zt _ _ _|exact Yd.aem _ _ _|exact Yd.yy _ _ _ _|exact Yd.toText _ _ _ _ _|exact Yd.zeroOf _ _|exact Yd.toZero _ _ _ _ _|exact Yd.AI _ _ _|exact Yd.CP _|exact Yd.acE _|exact Yd.mX bC _ _|exact Yd.sB bC _ _ _|refine Yd.aA (fun _ _=>?_)|refine Yd.aF (fun _=>?_)|refine Yd.bind ?_ (fun _=>?_)|split))
end Go.Rn
