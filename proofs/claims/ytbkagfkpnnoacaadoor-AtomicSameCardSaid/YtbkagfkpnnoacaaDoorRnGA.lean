import Derived.Calls
import Derived.Orders
set_option maxRecDepth 100000
set_option maxHeartbeats 8000000
set_option linter.unusedSimpArgs false
set_option linter.unusedVariables false
namespace Go.Rn
variable {α:Type} {P:Prop}
noncomputable section
inductive Tr (α:Type) where
 |nil:Tr α
 |node (l:Tr α) (v:Option α) (r:Tr α):Tr α
def Tr.vA(p:List Bool):Tr α->Option α:= @List.rec Bool (fun _=>Tr α->Option α) (fun t=> @Tr.rec α (fun _=>Option α) none (fun _ v _ _ _=>v) t) (fun b _ ih t=> @Tr.rec α (fun _=>Option α) none (fun l _ r _ _=>ih<|@Bool.rec (fun _=>Tr α) r l b) t) p
def Tr.ma(v:Option α)(p:List Bool):Tr α->Tr α:=
 @List.rec Bool (fun _=>Tr α->Tr α) (fun t=> @Tr.rec α (fun _=>Tr α) (.node .nil v .nil) (fun l _ r _ _=>.node l v r) t)
  (fun b _ ih t=> @Tr.rec α (fun _=>Tr α)
   (@Bool.rec (fun _=>Tr α) (.node .nil none<|ih .nil) (.node (ih .nil) none .nil) b)
   (fun l x r _ _=> @Bool.rec (fun _=>Tr α) (.node l x<|ih r) (.node (ih l) x r) b) t) p
theorem Tr.H5(p:List Bool):(Tr.nil:Tr α).vA p=none:=by cases p<;>rfl
theorem Tr.HL(l r:Tr α)(v:Option α):(Tr.node l v r).vA []=v:=rfl
theorem Tr.HM(l r:Tr α)(v:Option α)(b:Bool)(p:List Bool):(Tr.node l v r).vA (b::p)=if b=true then l.vA p else r.vA p:=by cases b<;>rfl
theorem Tr.EF(l r:Tr α)(x v:Option α)(b:Bool)(p:List Bool):Tr.ma v (b::p) (Tr.node l x r)=if b=true then .node (Tr.ma v p l) x r else .node l x (Tr.ma v p r):=by cases b<;>rfl
theorem Tr.MM(v:Option α)(b:Bool)(p:List Bool):Tr.ma v (b::p) (Tr.nil:Tr α)=if b=true then .node (Tr.ma v p .nil) none .nil else .node .nil none (Tr.ma v p .nil):=by cases b<;>rfl
theorem Tr.Md(v:Option α):∀(p q:List Bool) (t:Tr α),(Tr.ma v p t).vA q=if q=p then v else t.vA q
 |[],q,t=>by
  cases t with
  |nil=>
   show(Tr.node .nil v .nil).vA q=_;cases q with
   |nil=>simp[Tr.HL]
   |cons b q=>simp[Tr.HM,Tr.H5]
  |node l x r=>
   show(Tr.node l v r).vA q=_;cases q with
   |nil=>simp[Tr.HL]
   |cons b q=>simp[Tr.HM]
 |a::p,q,t=>by
  cases t with
  |nil=>
   rw[Tr.MM];cases q with
   |nil=>cases a<;>simp[Tr.HL,Tr.H5]
   |cons b q=>cases a<;>cases b<;>simp[Tr.HM,Tr.H5,Tr.Md v p q]
  |node l x r=>
   rw[Tr.EF];cases q with
   |nil=>cases a<;>simp[Tr.HL]
   |cons b q=>cases a<;>cases b<;>simp[Tr.HM,Tr.Md v p q]
def path(f:Nat):Nat->List Bool:= @Nat.rec (fun _=>Nat->List Bool) (fun _=>[]) (fun _ ih n=> @Bool.rec (fun _=>List Bool) (List.cons (Nat.beq (Nat.mod n 2) 1)<|ih<|Nat.div (Nat.pred n) 2) []<|Nat.beq n 0) f
theorem MO(a b:α)(c:Bool): @Bool.rec (fun _=>α) a b c=if c=true then b else a:=by cases c<;>rfl
theorem beq_eq(n m:Nat):(Nat.beq n m=true)=(n=m):=by rw[Nat.beq_eq]
theorem HN(f n:Nat):path (f+1) n=if n=0 then[] else(Nat.beq (n % 2) 1)::path f ((n - 1) / 2):=by show @Bool.rec (fun _=>List Bool) (List.cons (Nat.beq (n % 2) 1)<|path f<|(n - 1) / 2) [] (Nat.beq n 0)=_;simp only[MO,beq_eq]
theorem Tm:∀(f n m:Nat),n+1<=2 ^ f->m+1<=2 ^ f->path f n=path f m->n=m
 |0,n,m,hn,hm,_=>by simp at hn hm;omega
 |f+1,n,m,hn,hm,h=>by
  rw[HN,HN] at h;have hp:2 ^ (f+1)=2*2 ^ f:=by rw[Nat.pow_succ];omega
  by_cases h0:n=0
  ·by_cases h1:m=0
   ·omega
   ·rw[if_pos h0,if_neg h1] at h;cases h
  ·by_cases h1:m=0
   ·rw[if_neg h0,if_pos h1] at h;cases h
   ·rw[if_neg h0,if_neg h1] at h;injection h with ha hb
    have:=Tm f _ _ (by omega) (by omega) hb;have hq:(n % 2=1)=(m % 2=1):=by rw[←beq_eq, ←beq_eq,ha]
    have dY:n % 2=1↔m % 2=1:=by rw[hq]
    omega
def top:Nat:=549755813888
def Tr.get(t:Tr α)(n:Nat):Option α:=Tr.vA (path 40 n) t
def Tr.put(t:Tr α)(n:Nat)(v:Option α):Tr α:=Tr.ma v (path 40 n) t
theorem Tr.get_nil(n:Nat):(Tr.nil:Tr α).get n=none:=Tr.H5 _
theorem RU:∀(f k n:Nat),n+1<2 ^ k->(path f n).length<k
 |0,k,n,h=>by
  have:k≠0:=by intro e;subst e;simp at h
  show 0<k;omega
 |f+1,k,n,h=>by
  rw[HN];have hk:k≠0:=by intro e;subst e;simp at h
  by_cases h0:n=0
  ·rw[if_pos h0];show 0<k;omega
  ·rw[if_neg h0];obtain⟨j,rfl⟩:∃j,k=j+1:=⟨k - 1,by omega⟩;have hp:2 ^ (j+1)=2*2 ^ j:=by rw[Nat.pow_succ];omega
   have:=RU f j ((n - 1) / 2) (by omega);simp only[List.length_cons];omega
theorem Sv:∀(f k n:Nat),k<=f->2 ^ k<=n+1->k<=(path f n).length
 |_,0,_,_,_=>Nat.zero_le _
 |0,k+1,_,h,_=>by omega
 |f+1,k+1,n,h,hn=>by
  have hp:2 ^ (k+1)=2*2 ^ k:=by rw[Nat.pow_succ];omega
  have h1:1<=2 ^ k:=Nat.one_le_two_pow;rw[HN,if_neg<|by omega];have:=Sv f k ((n - 1) / 2) (by omega) (by omega);simp only[List.length_cons];omega
theorem Ue{n m:Nat}(h:n<top)(e:m≠n):path 40 m≠path 40 n:=by
 unfold top at h;by_cases hm:m+1<=2 ^ 40
 ·exact fun k=>e<|Tm 40 m n hm (by omega) k
 ·intro k;have h1:=Sv 40 40 m (Nat.le_refl _) (by omega);have h2:=RU 40 40 n (by omega);rw[k] at h1;omega
theorem Tr.lL(t:Tr α)(n m:Nat)(v:Option α)(h:n<top):(t.put n v).get m=if m=n then v else t.get m:=by
 unfold Tr.get Tr.put;rw[Tr.Md];by_cases e:m=n
 ·subst e;simp
 ·simp[e,Ue h e]
theorem Tr.da(t:Tr α)(n m:Nat)(v:Option α)(h:n<top)(_:m<top):(t.put n v).get m=if m=n then v else t.get m:=Tr.lL t n m v h
def Tr.fill(l:List α):Nat->Tr α->Tr α:= @List.rec α (fun _=>Nat->Tr α->Tr α) (fun _ t=>t) (fun x _ ih i t=>ih (Nat.succ i)<|t.put i<|some x) l
theorem Tr.MP:∀(l:List α) (i:Nat) (t:Tr α) (m:Nat),i+l.length<=top->m<top->
 (Tr.fill l i t).get m=if i<=m/\m<i+l.length then l[m - i]? else t.get m
 |[],i,t,m,_,_=>by show t.get m=_;simp;intro h1 h2;omega
 |x::l,i,t,m,h,hm=>by
  simp only[List.length_cons] at h;show(Tr.fill l (i+1)<|t.put i<|some x).get m=_;rw[Tr.MP l _ _ _ (by omega) hm,Tr.da _ _ _ _ (by omega) hm];simp only[List.length_cons];by_cases h1:i+1<=m/\m<i+1+l.length
  ·have h2:i<=m/\m<i+(l.length+1):=by omega
   rw[if_pos h1,if_pos h2];obtain⟨k,rfl⟩:∃k,m=i+1+k:=⟨m - (i+1),by omega⟩;rw[show i+1+k - (i+1)=k from by omega,show i+1+k - i=k+1 from by omega];simp
  ·rw[if_neg h1];by_cases e:m=i
   ·subst e;simp
   ·have h2:¬(i<=m/\m<i+(l.length+1)):=by omega
    rw[if_neg e,if_neg h2]
theorem Tr.sq:∀(l:List α) (i:Nat) (t:Tr α) (m:Nat),i+l.length<=top->
 (Tr.fill l i t).get m=if i<=m/\m<i+l.length then l[m - i]? else t.get m
 |[],i,t,m,_=>by show t.get m=_;simp;intro h1 h2;omega
 |x::l,i,t,m,h=>by
  simp only[List.length_cons] at h;show(Tr.fill l (i+1)<|t.put i<|some x).get m=_;rw[Tr.sq l _ _ _ (by omega),Tr.lL _ _ _ _<|by omega];simp only[List.length_cons];by_cases h1:i+1<=m/\m<i+1+l.length
  ·have h2:i<=m/\m<i+(l.length+1):=by omega
   rw[if_pos h1,if_pos h2];obtain⟨k,rfl⟩:∃k,m=i+1+k:=⟨m - (i+1),by omega⟩;rw[show i+1+k - (i+1)=k from by omega,show i+1+k - i=k+1 from by omega];simp
  ·rw[if_neg h1];by_cases e:m=i
   ·subst e;simp
   ·have h2:¬(i<=m/\m<i+(l.length+1)):=by omega
    rw[if_neg e,if_neg h2]
end
theorem aj(h:P:=by omega):P:=h
theorem fS(h:P:=by simp[Op.operands]):P:=h
theorem iE(h:P:=by decide):P:=h
theorem jF(h:P:=by simp):P:=h
theorem DZ(h:P:=by rw[←ag.nx];exact h1):P:=h
theorem vS(h:P:=by simp;omega):P:=h
theorem D0(h:P:=by rw[←hg];exact h2):P:=h
end Go.Rn
namespace Go.Rn
variable {l:List Item} {it:Item}
def loose(b:Array Nat)(i j:Nat):Bool:= !((b.getD i 0).testBit j||(b.getD j 0).testBit i)
def Ix(ops:Array Oper):Prop:=∀(j:Nat) (o:Oper) (e:Edge),ops[j]? =some o->e∈o.after->Region.binds .any e=true->e.on<j
def acJ(ops:Array Oper):Prop:=∀(i j:Nat) (x y:Oper) (d:Tmp),i≠j->ops[i]? =some x->ops[j]? =some y->x.dst=some d->(d∈y.looksAt ops\/y.dst=some d)->loose (Region.before ops) i j=false
structure JA (ops:Array Oper):Prop where
 VQ:Ix ops
 Dc:acJ ops
def iz:Code->Prop
 | .seq a b=>iz a/\iz b
 | .cond _ a b=>iz a/\iz b
 | .block _ b=>iz b
 | .loop b=>iz b
 | .scope b=>iz b
 | .region _ ops draw=>draw=true->JA ops
 | .rangeFunc _ _ a b=>iz a/\iz b
 |_=>True
def I0:Item->Prop
 | .code c=>iz c
 | .inLoop b=>iz b
 | .inScope b=>iz b
 |_=>True
def jy(l:List Item):Prop:=∀it∈l,I0 it
structure Fu (bL:Option Code) (assign body:Code):Prop where
 bL:∀c,bL=some c->iz c
 assign:iz assign
 body:iz body
theorem jy.cons(h:I0 it)(k:jy l):jy<|it::l:=by
 intro x hx;rcases List.mem_cons.1 hx with rfl|hx
 ·exact h
 ·exact k x hx
theorem jy.head(h:jy<|it::l):I0 it:=h it List.mem_cons_self
theorem jy.tail(h:jy<|it::l):jy l:=fun x hx=>h x<|List.mem_cons_of_mem _ hx
theorem jy.nil:jy []:=fun _ h=>by cases h
theorem Me{id:Nat}:∀{k k':List Item},exitTo id k=some k'->jy k->jy k'
  |[],_,h,_=>by simp[exitTo] at h
  | it::k,k',h,hk=>by
    cases it<;>simp only[exitTo] at h<;>first
      |exact Me h hk.tail
      | (split at h
         · injection h with h;subst h;exact hk.tail
         · exact Me h hk.tail)
theorem Y0{l:Nat}:∀{c r:Code},findLabel c l=some r->iz c->iz r:=by
 intro c;induction c with
 |seq a b BE BF=>
  intro r h hc;simp only[findLabel] at h;cases e:findLabel a l with
  |some q=>rw[e] at h;injection h with h;subst h;exact⟨BE e hc.1,hc.2⟩
  |none=>rw[e] at h;exact BF h hc.2
 |label l'=>
  intro r h _;simp only[findLabel] at h;split at h
  ·injection h with h;subst h;trivial
  ·cases h
 |_=>intro r h _;simp[findLabel] at h
theorem Mf{l:Nat}:∀{k k':List Item},gotoIn l k=some k'->jy k->jy k'
 |[],_,h,_=>by simp[gotoIn] at h
 |it::k,k',h,hk=>by
  cases it<;>simp only[gotoIn] at h<;>first
   |exact Mf h hk.tail
   |skip
  rename_i body;cases e:findLabel body l with
  |some q=>rw[e] at h;injection h with h;subst h;exact .cons (Y0 e hk.head) hk
  |none=>rw[e] at h;exact Mf h hk.tail
end Go.Rn
namespace Go.Rn
variable {n sh b nt:Nat} {w:World} {v:Value} {a:Array Value}
inductive bW where
 |known (c:Nat)
 |aq (lo e:Nat)
 |lost
 deriving Inhabited,DecidableEq
inductive AV where
 |bool (b:Bool)
 |int (k:IntKind) (n:Int)
 |str (s:ByteArray)
 |ptr (a:Option<|Nat×Nat)
 |slice (a:Option<|Nat×Nat) (len:Nat) (cap:bW)
 |U (n o len:Nat)
 |pF (n o:Nat)
 |map (r:Option Nat)
 |func (fn:Fn) (first captured:List AV)
 |yield (l:Nat)
 |nilFunc
 |iface (t:TypeId) (v:AV)
 |nilIface
 |agg (cells:List AV)
 |tuple (vs:List AV)
 |Gc (n:Nat)
 deriving Inhabited
abbrev Ren:=Nat->Option (Nat×Nat)
def Ren.le(ρ σ:Ren):Prop:=∀n x,ρ n=some x->σ n=some x
theorem Ren.le_refl(ρ:Ren):ρ.le ρ:=fun _ _ h=>h
theorem Ren.le_trans{ρ σ τ:Ren}(h:ρ.le σ)(k:σ.le τ):ρ.le τ:=fun n x e=>k n x<|h n x e
def Uf:Fn->Bool
 | .yield _=>false
 |_=>true
def pr(a b:Nat):Nat:=2 ^ a*(2*b+1)
theorem fH:∀{a b c d:Nat},pr a b=pr c d->a=c/\b=d
 |0,b,0,d,h=>by unfold pr at h;omega
 |0,b,c+1,d,h=>by
  unfold pr at h;have e:2 ^ (c+1)*(2*d+1)=2*(2 ^ c*(2*d+1)):=by rw[Nat.pow_succ,Nat.mul_comm (2 ^ c) 2,Nat.mul_assoc]
  rw[e] at h;omega
 |a+1,b,0,d,h=>by
  unfold pr at h;have e:2 ^ (a+1)*(2*b+1)=2*(2 ^ a*(2*b+1)):=by rw[Nat.pow_succ,Nat.mul_comm (2 ^ a) 2,Nat.mul_assoc]
  rw[e] at h;omega
 |a+1,b,c+1,d,h=>by
  have e1:pr (a+1) b=2*pr a b:=by unfold pr;rw[Nat.pow_succ,Nat.mul_comm (2 ^ a) 2,Nat.mul_assoc]
  have e2:pr (c+1) d=2*pr c d:=by unfold pr;rw[Nat.pow_succ,Nat.mul_comm (2 ^ c) 2,Nat.mul_assoc]
  obtain⟨h1,h2⟩:=fH (a:=a) (b:=b) (c:=c) (d:=d) aj;exact⟨by omega,h2⟩
def hn(n b sh:Nat):Nat:=top+pr n (pr b sh)
theorem gb(n b sh:Nat):top<=hn n b sh:=Nat.le_add_right _ _
theorem I1{n' b' P4:Nat}(h:hn n b sh=hn n' b' P4):n=n'/\b=b'/\sh=P4:=by unfold hn at h;obtain⟨h1,h2⟩:=fH (show pr n (pr b sh)=pr n' (pr b' P4) by omega);exact⟨h1,fH h2⟩
def qo(ρ:Ren)(n b sh:Nat):Prop:=(¬top<=n/\ρ n=some (b,sh))\/(top<=n/\ρ (hn n b sh)≠none)
theorem qo.high{ρ:Ren}(h:qo ρ n b sh)(ht:top<=n):ρ (hn n b sh)≠none:=h.elim (fun h=>absurd ht h.1) fun h=>h.2
theorem qo.low{ρ:Ren}(h:qo ρ n b sh)(ht:¬top<=n):ρ n=some (b,sh):=h.elim (fun h=>h.2) fun h=>absurd h.1 ht
theorem qo.mono{ρ σ:Ren}(h:ρ.le σ):qo ρ n b sh->qo σ n b sh
  | .inl ⟨a,b⟩=>.inl ⟨a,h _ _ b⟩
  | .inr ⟨a,b⟩=>.inr ⟨a,fun e=>b (by
    cases q:ρ (hn n _ sh) with
    |none=>rfl
    |some x=>rw[h _ _ q] at e;cases e)⟩
def zOk(n:Nat)(a:Option Addr)(c:Nat):Prop:=(a=none->c=0)/\(n=top->a=none)/\(n=top+1->a≠none)
mutual
def VR(ρ:Ren):AV->Value->Prop
 | .bool b,v=>v= .bool b
 | .int k n,v=>v= .int k n
 | .str s,v=>v= .string s
 | .ptr none,v=>v= .pointer none
 | .ptr (some (n,o)),v=>∃b N,ρ n=some (b,N)/\v= .pointer (some ⟨b,o,none⟩)
 | .slice none len (.known c),v=>v= .slice none len c/\len=0/\c=0
 | .slice none _ (.aq _ _),_=>False
 | .slice none _ .lost,_=>False
 | .slice (some (n,_)) len .lost,v=>len=0/\∃b N o c,ρ n=some (b,N)/\v= .slice (some ⟨b,o,none⟩) 0 c
 | .slice (some (n,o)) len (.known c),v=>∃b N,ρ n=some (b,N)/\v= .slice (some ⟨b,o,none⟩) len c
 | .slice (some (n,o)) len (.aq lo e),v=>∃b N c,ρ n=some (b,N)/\v= .slice (some ⟨b,o,none⟩) len c/\lo<=c/\len<=c/\o+c*e<=N
 | .U n o len,v=>(top<=n/\len=0/\∃a c,v= .slice a 0 c/\zOk n a c)\/∃b sh c,qo ρ n b sh/\v= .slice (some ⟨b,sh+o,none⟩) len c/\(top<=n->len<=c/\n≠top)
 | .pF n o,v=>∃b sh,qo ρ n b sh/\v= .pointer (some ⟨b,sh+o,none⟩)
 | .map none,v=>v= .map none
 | .map (some n),v=>∃b N,ρ n=some (b,N)/\v= .map (some b)
 | .func fn first captured,v=>Uf fn=true/\∃f c,v= .func fn f c/\ay ρ first f.toList/\ay ρ captured c.toList
 | .yield l,v=>∃b N,ρ l=some (b,N)/\v= .func (.yield b) #[] #[]
 | .nilFunc,v=>v= .nilFunc
 | .iface t x,v=>∃y,v= .iface t y/\VR ρ x y
 | .nilIface,v=>v= .nilIface
 | .agg l,v=>∃a,v= .agg a/\ay ρ l a.toList
 | .tuple l,v=>∃a,v= .tuple a/\ay ρ l a.toList
 | .Gc n,v=>v= .string ⟨(List.replicate n (0:UInt8)).toArray⟩
def ay(ρ:Ren):List AV->List Value->Prop
 |[],l=>l=[]
 |x::xs,l=>∃y ys,l=y::ys/\VR ρ x y/\ay ρ xs ys
end
mutual
theorem VR.mono{ρ σ:Ren}(h:ρ.le σ):∀(x:AV) (v:Value),VR ρ x v->VR σ x v
 | .bool _,_,k=>by simpa only[VR] using k
 | .int _ _,_,k=>by simpa only[VR] using k
 | .str _,_,k=>by simpa only[VR] using k
 | .Gc _,_,k=>by simpa only[VR] using k
 | .ptr none,_,k=>by simpa only[VR] using k
 | .ptr (some (n,o)),_,k=>by simp only[VR] at k ⊢;obtain⟨b,N,e,r⟩:=k;exact⟨b,N,h _ _ e,r⟩
 | .slice none len (.known c),_,k=>by simpa only[VR] using k
 | .slice none _ (.aq _ _),_,k=>by simp only[VR] at k
 | .slice none _ .lost,_,k=>by simp only[VR] at k
 | .slice (some (n,o)) len .lost,_,k=>by simp only[VR] at k ⊢;obtain⟨l,b,N,p,c,e,r⟩:=k;exact⟨l,b,N,p,c,h _ _ e,r⟩
 | .slice (some (n,o)) len (.known c),_,k=>by simp only[VR] at k ⊢;obtain⟨b,N,e,r⟩:=k;exact⟨b,N,h _ _ e,r⟩
 | .slice (some (n,o)) len (.aq lo e),_,k=>by simp only[VR] at k ⊢;obtain⟨b,N,c,e,r⟩:=k;exact⟨b,N,c,h _ _ e,r⟩
 | .U n o len,_,k=>by simp only[VR] at k ⊢;rcases k with k|⟨b,sh,c,e,r⟩;exact .inl k;exact .inr ⟨b,sh,c,e.mono h,r⟩
 | .pF n o,_,k=>by simp only[VR] at k ⊢;obtain⟨b,sh,e,r⟩:=k;exact⟨b,sh,e.mono h,r⟩
 | .map none,_,k=>by simpa only[VR] using k
 | .map (some n),_,k=>by simp only[VR] at k ⊢;obtain⟨b,N,e,r⟩:=k;exact⟨b,N,h _ _ e,r⟩
 | .func fn first captured,_,k=>by simp only[VR] at k ⊢;obtain⟨p,f,c,e,r,s⟩:=k;exact⟨p,f,c,e,ay.mono h _ _ r,ay.mono h _ _ s⟩
 | .yield l,_,k=>by simp only[VR] at k ⊢;obtain⟨b,N,e,r⟩:=k;exact⟨b,N,h _ _ e,r⟩
 | .nilFunc,_,k=>by simpa only[VR] using k
 | .iface t x,_,k=>by simp only[VR] at k ⊢;obtain⟨y,e,r⟩:=k;exact⟨y,e,VR.mono h _ _ r⟩
 | .nilIface,_,k=>by simpa only[VR] using k
 | .agg l,_,k=>by simp only[VR] at k ⊢;obtain⟨a,e,r⟩:=k;exact⟨a,e,ay.mono h _ _ r⟩
 | .tuple l,_,k=>by simp only[VR] at k ⊢;obtain⟨a,e,r⟩:=k;exact⟨a,e,ay.mono h _ _ r⟩
theorem ay.mono{ρ σ:Ren}(h:ρ.le σ):∀(x:List AV) (v:List Value),ay ρ x v->ay σ x v
 |[],_,k=>by simpa only[ay] using k
 |x::xs,_,k=>by simp only[ay] at k ⊢;obtain⟨y,ys,e,r,s⟩:=k;exact⟨y,ys,e,VR.mono h _ _ r,ay.mono h _ _ s⟩
end
theorem ay.length{ρ:Ren}:∀{x:List AV} {v:List Value},ay ρ x v->x.length=v.length
 |[],_,k=>by simp only[ay] at k;subst k;rfl
 |x::xs,_,k=>by simp only[ay] at k;obtain⟨y,ys,rfl,_,s⟩:=k;simp[ay.length s]
theorem ay.get{ρ:Ren}:∀{x:List AV} {v:List Value},ay ρ x v->∀(i:Nat) (a:AV),x[i]? =some a->∃b,v[i]? =some b/\VR ρ a b
 |[],_,_,_,_,h=>by simp at h
 |x::xs,_,k,i,a,h=>by
  simp only[ay] at k;obtain⟨y,ys,rfl,r,s⟩:=k;cases i with
  |zero=>simp at h;subst h;exact⟨y,rfl,r⟩
  |succ i=>simp at h;obtain⟨b,hb,hr⟩:=ay.get s i a h;exact⟨b,by simpa using hb,hr⟩
theorem ay.append{ρ:Ren}:∀{x:List AV} {v:List Value} {x':List AV} {v':List Value},ay ρ x v->ay ρ x' v'->ay ρ (x++x') (v++v')
 |[],_,_,_,k,h=>by simp only[ay] at k;subst k;simpa using h
 |x::xs,_,_,_,k,h=>by simp only[ay] at k;obtain⟨y,ys,rfl,r,s⟩:=k;simp only[List.cons_append,ay];exact⟨y,_,rfl,r,ay.append s h⟩
theorem ay.Vb{ρ:Ren}:∀(x:List AV) (v:List Value),x.length=v.length->(∀(i:Nat) (a:AV) (b:Value),x[i]? =some a->v[i]? =some b->VR ρ a b)->ay ρ x v
 |[],[],_,_=>by simp only[ay]
 |[],_::_,h,_=>by simp at h
 |_::_,[],h,_=>by simp at h
 |x::xs,y::ys,h,k=>by simp only[ay];exact⟨y,ys,rfl,k 0 x y rfl rfl,ay.Vb xs ys (by simpa using h) fun i a b ha hb=>k (i+1) a b (by simpa using ha)<|by simpa using hb⟩
theorem ay.take{ρ:Ren}:∀(n:Nat) {x:List AV} {v:List Value},ay ρ x v->ay ρ (x.take n) (v.take n)
 |0,_,_,_=>by simp[ay]
 |n+1,[],_,k=>by simp only[ay] at k;subst k;simp[ay]
 |n+1,x::xs,_,k=>by simp only[ay] at k;obtain⟨y,ys,rfl,r,s⟩:=k;simp only[List.take_succ_cons,ay];exact⟨y,_,rfl,r,ay.take n s⟩
theorem ay.drop{ρ:Ren}:∀(n:Nat) {x:List AV} {v:List Value},ay ρ x v->ay ρ (x.drop n) (v.drop n)
 |0,_,_,k=>by simpa using k
 |n+1,[],_,k=>by simp only[ay] at k;subst k;simp[ay]
 |n+1,x::xs,_,k=>by simp only[ay] at k;obtain⟨y,ys,rfl,r,s⟩:=k;simpa using ay.drop n s
def om:AV:=.tuple []
theorem VR.undef(ρ:Ren):VR ρ om Go.undef:=by simp only[om,Go.undef,VR,ay];exact⟨#[],rfl,rfl⟩
def AV.cells:AV->List AV
 | .agg l=>l
 |v=>[v]
theorem VR.cells{ρ:Ren}{x:AV}(h:VR ρ x v):ay ρ x.cells v.cells.toList:=by
 cases x<;>(try (simp only[VR] at h;subst h;simp only[AV.cells,Value.cells,ay,VR];exact⟨_,_,rfl,rfl,rfl⟩))
 case ptr a=>
  cases a with
  |none=>simp only[VR] at h;subst h;simp only[AV.cells,Value.cells,ay,VR];exact⟨_,_,rfl,rfl,rfl⟩
  |some a=>obtain⟨n,o⟩:=a;have h':=h;simp only[VR] at h';obtain⟨b,N,_,rfl⟩:=h';simp only[AV.cells,Value.cells,ay];exact⟨_,_,rfl,h,rfl⟩
 case slice a len cap=>
  have:∃p q r,v= .slice p q r:=by
   cases a with
   |none=>cases cap<;>simp only[VR] at h;exact⟨_,_,_,h.1⟩
   |some a=>
    obtain⟨n,o⟩:=a;cases cap<;>simp only[VR] at h
    ·obtain⟨b,N,_,rfl⟩:=h;exact⟨_,_,_,rfl⟩
    ·obtain⟨b,N,c,_,rfl,_⟩:=h;exact⟨_,_,_,rfl⟩
    ·obtain⟨_,b,N,p,c,_,rfl⟩:=h;exact⟨_,_,_,rfl⟩
  obtain⟨p,q,r,rfl⟩:=this;simp only[AV.cells,Value.cells,ay];exact⟨_,_,rfl,h,rfl⟩
 case U n o len=>
  have h':=h;simp only[VR] at h';rcases h' with⟨_,_,_,_,rfl,_⟩|⟨b,sh,c,_,rfl,_⟩<;>
  (simp only[AV.cells,Value.cells,ay];exact⟨_,_,rfl,h,rfl⟩)
 case pF n o=>have h':=h;simp only[VR] at h';obtain⟨b,sh,_,rfl⟩:=h';simp only[AV.cells,Value.cells,ay];exact⟨_,_,rfl,h,rfl⟩
 case map a=>
  cases a with
  |none=>simp only[VR] at h;subst h;simp only[AV.cells,Value.cells,ay,VR];exact⟨_,_,rfl,rfl,rfl⟩
  |some a=>have h':=h;simp only[VR] at h';obtain⟨b,N,_,rfl⟩:=h';simp only[AV.cells,Value.cells,ay];exact⟨_,_,rfl,h,rfl⟩
 case func fn f c=>have h':=h;simp only[VR] at h';obtain⟨_,_,_,rfl,_⟩:=h';simp only[AV.cells,Value.cells,ay];exact⟨_,_,rfl,h,rfl⟩
 case yield l=>have h':=h;simp only[VR] at h';obtain⟨_,_,_,rfl⟩:=h';simp only[AV.cells,Value.cells,ay];exact⟨_,_,rfl,h,rfl⟩
 case iface t x=>have h':=h;simp only[VR] at h';obtain⟨_,rfl,_⟩:=h';simp only[AV.cells,Value.cells,ay];exact⟨_,_,rfl,h,rfl⟩
 case agg l=>simp only[VR] at h;obtain⟨a,rfl,k⟩:=h;simpa only[AV.cells,Value.cells] using k
 case tuple l=>have h':=h;simp only[VR] at h';obtain⟨_,rfl,_⟩:=h';simp only[AV.cells,Value.cells,ay];exact⟨_,_,rfl,h,rfl⟩
def AV.bR:AV->Bool
 | .agg _| .tuple _=>false
 |_=>true
theorem VR.bR{ρ:Ren}{x:AV}(h:VR ρ x v)(hx:x.bR=true):∀cs,v≠ .agg cs/\v≠ .tuple cs:=by
 intro cs;cases x<;>(try (simp only[VR] at h;subst h;simp;done))<;>(try (simp[AV.bR] at hx;done))
 case ptr a=>
  cases a with
  |none=>simp only[VR] at h;subst h;simp
  |some a=>obtain⟨n,o⟩:=a;simp only[VR] at h;obtain⟨_,_,_,rfl⟩:=h;simp
 case slice a len cap=>
  cases a with
  |none=>cases cap<;>simp only[VR] at h;rw[h.1];simp
  |some a=>
   obtain⟨n,o⟩:=a;cases cap<;>simp only[VR] at h
   ·obtain⟨_,_,_,rfl⟩:=h;simp
   ·obtain⟨_,_,_,_,rfl,_⟩:=h;simp
   ·obtain⟨_,_,_,_,_,_,rfl⟩:=h;simp
 case U n o len=>simp only[VR] at h;rcases h with⟨_,_,_,_,rfl,_⟩|⟨_,_,_,_,rfl,_⟩<;>simp
 case pF n o=>simp only[VR] at h;obtain⟨_,_,_,rfl⟩:=h;simp
 case map a=>
  cases a with
  |none=>simp only[VR] at h;subst h;simp
  |some a=>simp only[VR] at h;obtain⟨_,_,_,rfl⟩:=h;simp
 case func fn f c=>simp only[VR] at h;obtain⟨_,_,_,rfl,_⟩:=h;simp
 case yield l=>simp only[VR] at h;obtain⟨_,_,_,rfl⟩:=h;simp
 case iface t x=>simp only[VR] at h;obtain⟨_,rfl,_⟩:=h;simp
inductive ae where
 |cells (n:Nat) (t:Tr AV) (z:List AV)
 |map (es:List<|AV×AV) (bp:Nat)
 |lq (es:List<|AV×AV)
 |loop (st:LoopState) (bL:Option Code) (fn:FuncId) (tmps:Tr AV) (nt:Nat) (params:List Tmp) (assign body:Code) (defers:Nat)
 |defs
 |ro (n:Nat) (t:Tr AV)
 |th (n:Nat) (t:Tr AV)
 |Ff (s:ByteArray) (pos:Nat)
 |iter (m:Nat) (es:List<|AV×AV) (exact:Bool) (left:List<|AV×AV) (cur:Option<|AV×AV)
 |iA
 |tok (k:Nat) (v:AV)
 deriving Inhabited
noncomputable def cellAt(t:Tr AV)(z:List AV)(i:Nat):Option AV:=
 match t.get i with
 |some v=>some v
 |none=>z[i % z.length]?
def ae.dh:ae->Bool
 | .ro _ _=>true
 | .th _ _=>true
 | .tok _ _=>true
 |_=>false
def ae.mJ:ae->Bool
 | .ro _ _=>true
 | .th _ _=>true
 |_=>false
theorem ae.kg:∀{o:ae},o.mJ=true->o.dh=true
 | .ro _ _,_=>rfl
 | .th _ _,_=>rfl
 | .cells _ _ _,h=>by cases h
 | .map _ _,h=>by cases h
 | .lq _,h=>by cases h
 | .loop _ _ _ _ _ _ _ _ _,h=>by cases h
 | .defs,h=>by cases h
 | .Ff _ _,h=>by cases h
 | .iter _ _ _ _ _,h=>by cases h
 | .iA,h=>by cases h
 | .tok _ _,h=>by cases h
def TR(ρ:Ren)(nt:Nat)(t:Tr AV)(a:Array Value):Prop:=a.size=nt/\∀i x,t.get i=some x->VR ρ x (a.getD i Go.undef)
theorem TR.mono{ρ σ:Ren}(h:ρ.le σ){t:Tr AV}(k:TR ρ nt t a):TR σ nt t a:=⟨k.1,fun i x e=>VR.mono h _ _<|k.2 i x e⟩
theorem TR.set{ρ:Ren}{t:Tr AV}(k:TR ρ nt t a){d:Nat}{x:AV}(hd:d<nt)(ht:nt<=top)(h:VR ρ x v):
 TR ρ nt (t.put d<|some x) (a.setIfInBounds d v):=by
 refine⟨by simp[k.1],fun i y hy=>?_⟩;rw[Tr.lL _ _ _ _ aj] at hy;by_cases e:i=d
 ·subst e;have:(a.setIfInBounds i v).getD i Go.undef=v:=by rw[Array.getD_eq_getD_getElem?,Array.getElem?_setIfInBounds_self_of_lt (by rw[k.1];exact hd)];rfl
  rw[if_pos rfl] at hy;injection hy with hy;subst hy
  rw[this];exact h
 ·have:(a.setIfInBounds d v).getD i Go.undef=a.getD i Go.undef:=by rw[Array.getD_eq_getD_getElem?,Array.getElem?_setIfInBounds_ne aj, ←Array.getD_eq_getD_getElem?]
  rw[if_neg e] at hy;rw[this];exact k.2 i y hy
def jY(ρ:Ren):List (AV×AV)->List MapEntry->Nat->Prop
 |[],l,_=>l=[]
 |x::xs,l,i=>∃e es,l=e::es/\VR ρ x.1 e.key/\VR ρ x.2 e.val/\e.born=i/\jY ρ xs es (i+1)
theorem jY.mono{ρ σ:Ren}(h:ρ.le σ):∀(x:List<|AV×AV) (l:List MapEntry) (i:Nat),jY ρ x l i->jY σ x l i
 |[],_,_,k=>k
 |x::xs,_,i,k=>by obtain⟨e,es,r,a,b,c,d⟩:=k;exact⟨e,es,r,VR.mono h _ _ a,VR.mono h _ _ b,c,jY.mono h xs es _ d⟩
def dM(ρ:Ren):List (AV×AV)->List MapEntry->Prop
 |[],l=>l=[]
 |x::xs,l=>∃e es,l=e::es/\VR ρ x.1 e.key/\VR ρ x.2 e.val/\dM ρ xs es
theorem dM.mono{ρ σ:Ren}(h:ρ.le σ):∀(x:List<|AV×AV) (l:List MapEntry),dM ρ x l->dM σ x l
 |[],_,k=>k
 |x::xs,_,k=>by obtain⟨e,es,r,a,b,d⟩:=k;exact⟨e,es,r,VR.mono h _ _ a,VR.mono h _ _ b,dM.mono h xs es d⟩
theorem jY.eqs{ρ:Ren}:∀{x:List<|AV×AV} {l:List MapEntry} {i:Nat},jY ρ x l i->dM ρ x l
 |[],_,_,k=>k
 |_::_,_,_,k=>by obtain⟨e,es,r,a,b,_,d⟩:=k;exact⟨e,es,r,a,b,d.eqs⟩
def vT(ρ:Ren)(es:List<|AV×AV)(l:List MapEntry):Prop:=∃l',l.Perm l'/\dM ρ es l'
theorem vT.mono{ρ σ:Ren}(h:ρ.le σ){x:List<|AV×AV}{l:List MapEntry}(k:vT ρ x l):vT σ x l:=by obtain⟨l',p,n⟩:=k;exact⟨l',p,n.mono h⟩
def sameKey:AV->AV->Option Bool
 | .int k a,.int k' b=>match decide (k=k') with
  |true=>some<|a == b
  |false=>none
 | .str a,.str b=>some<|a == b
 | .bool a,.bool b=>some<|a == b
 |_,_=>none
def lp(es:List<|AV×AV):Prop:=es.Pairwise fun a b=>sameKey a.1 b.1=some false/\sameKey b.1 a.1=some false
def sL(l:List MapEntry)(bp:Nat):Prop:=(l.map (·.born)).Nodup/\∀e∈l,e.born<bp
def OR(ρ:Ren)(N:Nat):ae->Obj->Prop
 | .cells n t z,o=>∃c e,o= .cells c e (0,0)/\c.size=N/\n<=N/\∀i,i<n->∃x v,cellAt t z i=some x/\x.bR=true/\c[i]? =some v/\VR ρ x v
 | .map es bp,o=>∃l,o= .map l bp/\bp=es.length/\jY ρ es l.toList 0
 | .lq es,o=>∃l bp,o= .map l bp/\lp es/\sL l.toList bp/\vT ρ es l.toList
 | .loop st bL fn tmps nt params assign body defers,o=>∃a b M,o= .loop {state:=st,pending:=bL,fn,tmps:=a,params:=params.toArray,assign,body,defers:=b}/\TR ρ nt tmps a/\nt<=top/\ρ defers=some (b,M)/\Fu bL assign body
 | .defs,o=>o= .deferred (some [])
 | .ro n t,o=>∃c e fr,o= .cells c e fr/\c.size=N/\n=N/\∀i,i<n->∃x v,t.get i=some x/\x.bR=true/\c[i]? =some v/\VR ρ x v
 | .th n t,o=>∃c e fr,o= .cells c e fr/\∀i,i<n->∃x v,t.get i=some x/\x.bR=true/\c[N+i]? =some v/\VR ρ x v
 | .Ff s pos,o=>o= .stringIter s pos
 | .iter m _ _ _ _,o=>∃b M c s,ρ m=some (b,M)/\o= .mapIter (some b) c s c
 | .iA,o=>∃l bp,o= .map l bp
 | .tok _ _,_=>True
theorem OR.mono{ρ σ:Ren}(h:ρ.le σ){N:Nat}{x:ae}{o:Obj}(k:OR ρ N x o):OR σ N x o:=by
 cases x<;>simp only[OR] at k ⊢
 case cells n t z=>obtain⟨c,e,r,s,u,f⟩:=k;exact⟨c,e,r,s,u,fun i hi=>let ⟨x,v,a,b,d,q⟩:=f i hi;⟨x,v,a,b,d,VR.mono h _ _ q⟩⟩
 case map es bp=>obtain⟨l,r,c,s⟩:=k;exact⟨l,r,c,jY.mono h _ _ _ s⟩
 case lq es=>obtain⟨l,c,r,a,b,s⟩:=k;exact⟨l,c,r,a,b,s.mono h⟩
 case loop st bL fn tmps nt params assign body defers=>obtain⟨a,b,M,r,s,q,u,v⟩:=k;exact⟨a,b,M,r,s.mono h,q,h _ _ u,v⟩
 case defs=>exact k
 case ro n t=>obtain⟨c,e,q,r,s,u,f⟩:=k;exact⟨c,e,q,r,s,u,fun i hi=>let ⟨x,v,a,b,d,q⟩:=f i hi;⟨x,v,a,b,d,VR.mono h _ _ q⟩⟩
 case th n t=>obtain⟨c,e,q,r,f⟩:=k;exact⟨c,e,q,r,fun i hi=>let ⟨x,v,a,b,d,q⟩:=f i hi;⟨x,v,a,b,d,VR.mono h _ _ q⟩⟩
 case Ff s pos=>exact k
 case iter m es ex left cur=>obtain⟨b,M,c,s,r,q⟩:=k;exact⟨b,M,c,s,h _ _ r,q⟩
 case iA=>exact k
def mT(ρ:Ren)(w:World)(n m:Nat)(es:List<|AV×AV)(exact:Bool)(left:List<|AV×AV)(cur:Option<|AV×AV):Prop:=
 ∃b N bm M l bp seen,ρ n=some (b,N)/\ρ m=some (bm,M)/\w.heap[b]? =some (.mapIter (some bm) bp seen bp)/\w.heap[bm]? =some (.map l bp)/\
  sL l.toList bp/\(exact=true->bp=es.length/\jY ρ es l.toList 0)/\(exact=false->lp es/\vT ρ es l.toList)/\
  vT ρ left (l.toList.filter fun e=> !seen.contains e.born)/\
  (match cur with
  |none=>seen= #[]
  |some x=>∃e,e∈l.toList/\seen.back?=some e.born/\VR ρ x.1 e.key/\VR ρ x.2 e.val)
theorem mT.mono{ρ σ:Ren}(h:ρ.le σ){m:Nat}{es:List<|AV×AV}{ex:Bool}{left:List<|AV×AV}{cur:Option<|AV×AV}(k:mT ρ w n m es ex left cur):mT σ w n m es ex left cur:=by
 obtain⟨b,N,bm,M,l,bp,seen,h1,h2,h3,h4,h5,h6,h7,h8,h9⟩:=k;refine⟨b,N,bm,M,l,bp,seen,h _ _ h1,h _ _ h2,h3,h4,h5,fun e=>⟨(h6 e).1,(h6 e).2.mono h⟩,fun e=>⟨(h7 e).1,(h7 e).2.mono h⟩,h8.mono h,?_⟩;cases cur with
 |none=>exact h9
 |some x=>obtain⟨e,a,b,c,d⟩:=h9;exact⟨e,a,b,VR.mono h _ _ c,VR.mono h _ _ d⟩
structure aJ where
 may:Nat->Prop
 F:Nat->Option (List AV)
 dy:Nat->Prop
 inv:Nat->AV->Ren->World->Nat->(Nat->Prop)->Prop
 lim:Nat
 mono:∀{k v ρ σ w w' b H},inv k v ρ w b H->(∀m x,top<=m->ρ m=some x->σ m=some x)->(∀x,H x->w'.heap[x]? =w.heap[x]?)->inv k v σ w' b H
def aev(W:World):aJ:=⟨fun k=>W.heap.size<=k,fun _=>none,fun _=>True,fun _ _ _ _ _ _=>False,W.heap.size,fun h _ _=>h⟩
def jZ(ρ:Ren)(h:Tr ae)(b:Nat):Prop:=∀m o N,m<top->h.get m=some o->o.dh=false->ρ m≠some (b,N)
def gm(ρ:Ren):Ren:=fun k=>if top<=k then ρ k else none
theorem Fv(ρ:Ren):(gm ρ).le ρ:=by
 intro k x e;unfold gm at e;split at e
 ·exact e
 ·cases e
theorem EV{ρ σ:Ren}(h:ρ.le σ):(gm ρ).le<|gm σ:=by
 intro k x e;unfold gm at e ⊢;split at e
 ·rename_i q;rw[if_pos q];exact h _ _ e
 ·cases e
def Fz(B:aJ)(ρ:Ren)(h:Tr ae)(w:World):Prop:=∀n b sh,ρ (hn n b sh)≠none->(B.dy (hn n b sh)\/B.may b)/\∃l c e fr,B.F n=some l/\w.heap[b]? =some (.cells c e fr)/\jZ ρ h b/\∀i x,l[i]? =some x->∃v,c[sh+i]? =some v/\VR (gm ρ) x v/\x.bR=true
def tY(B:aJ)(ρ:Ren)(h:Tr ae)(w:World):Prop:=(B.lim<=w.heap.size/\∀m o,m<top->h.get m=some o->o.mJ=true->∃b N,ρ m=some (b,N)/\b<B.lim)/\∃H:Nat->Nat->Prop,(∀n k v,n<top->h.get n=some (.tok k v)->∃b N,ρ n=some (b,N)/\B.inv k v ρ w b (H n)/\H n b/\∀x,H n x->(x<w.heap.size/\B.lim<=x)/\B.may x/\jZ ρ h x/\∀j sh,ρ (hn j x sh)=none)/\∀n m x k v k' v',n<top->m<top->h.get n=some (.tok k v)->h.get m=some (.tok k' v')->n≠m->H n x->¬H m x
theorem tY.of{B:aJ}{ρ σ:Ren}{h h':Tr ae}{w':World}(f:tY B ρ h w)(hl:ρ.le σ)(ht:∀n o,n<top->h'.get n=some o->o.dh=true->h.get n=some o)(hs:w.heap.size<=w'.heap.size)(hw:∀b,b<w.heap.size->jZ ρ h b->w'.heap[b]? =w.heap[b]?)(hd:∀b,b<w.heap.size->jZ ρ h b->jZ σ h' b)(hm:∀j x sh,x<w.heap.size->jZ ρ h x->ρ (hn j x sh)=none->σ (hn j x sh)=none):tY B σ h' w':=by
 obtain⟨h0,H,h1,h2⟩:=f;refine⟨⟨Nat.le_trans h0.1 hs,fun m o eY hg hf=>?_⟩,H,fun n k v hn hg=>?_,fun n m x k v k' v' hn eY g1 g2=>h2 n m x k v k' v' hn eY (ht _ _ hn g1 rfl)<|ht _ _ eY g2 rfl⟩
 ·obtain⟨b,N,e1,e2⟩:=h0.2 m o eY (ht _ _ eY hg<|ae.kg hf) hf;exact⟨b,N,hl _ _ e1,e2⟩
 obtain⟨b,N,a1,a2,a3,a4⟩:=h1 n k v hn<|ht _ _ hn hg rfl;refine⟨b,N,hl _ _ a1,B.mono a2 (fun m x _ e=>hl _ _ e) fun x hx=>?_,a3,fun x hx=>?_⟩
 ·obtain⟨⟨c1,_⟩,_,c3,_⟩:=a4 x hx;exact hw x c1 c3
 ·obtain⟨⟨c1,cl⟩,c2,c3,c4⟩:=a4 x hx;exact⟨⟨Nat.lt_of_lt_of_le c1 hs,cl⟩,c2,hd x c1 c3,fun j sh=>hm j x sh c1 c3<|c4 j sh⟩
theorem tY.no{B:aJ}{ρ:Ren}{h:Tr ae}(hn:∀n k v,n<top->h.get n=some (.tok k v)->False)(hl:B.lim<=w.heap.size/\∀m o,m<top->h.get m=some o->o.mJ=true->∃b N,ρ m=some (b,N)/\b<B.lim):tY B ρ h w:=⟨hl,fun _ _=>False,fun n k v ht hg=>(hn n k v ht hg).elim,fun n _ _ k v _ _ ht _ hg _ _ _=>(hn n k v ht hg).elim⟩
structure Rel (B:aJ) (ρ:Ren) (h:Tr ae) (w:World):Prop where
 is:∀n o,n<top->h.get n=some o->∃b N o',ρ n=some (b,N)/\w.heap[b]? =some o'/\OR ρ N o o'/\(o.dh=false->B.may b)
 one:∀n m o p b N M,n<top->m<top->h.get n=some o->h.get m=some p->(o.dh=false\/p.dh=false)->ρ n=some (b,N)->ρ m=some (b,M)->n=m
 iter:∀n m es ex left cur,n<top->h.get n=some (.iter m es ex left cur)->m<top/\h.get m=some .iA/\mT ρ w n m es ex left cur
 size:∀k,w.heap.size<=k->B.may k
 lone:∀i j m es ex left cur gY iU iH iJ,i<top->j<top->h.get i=some (.iter m es ex left cur)->h.get j=some (.iter m gY iU iH iJ)->i=j
 fz:Fz B ρ h w
 tk:tY B ρ h w
end Go.Rn
namespace Go.Rn
variable {α β:Type}
structure AS where
 h:Tr ae
 nx:Nat
 mark:Nat
 rd:List Nat
 wr:List Nat
inductive R (α:Type) where
 |bad
 |ok (a:α) (s:AS)
def M(α:Type):Type:=AS->R α
noncomputable def M.pure(a:α):M α:=fun s=>.ok a s
noncomputable def M.bind(m:M α)(f:α->M β):M β:=fun s=> @R.rec α (fun _=>R β) .bad (fun a s1=>f a s1)<|m s
noncomputable instance:Monad M where
 pure:=M.pure
 bind:=M.bind
noncomputable def fail:M α:=fun _=>.bad
noncomputable def lift(o:Option α):M α:=fun s=> @Option.rec α (fun _=>R α) .bad (fun a=>.ok a s) o
noncomputable def aB(o:Option α)(f:α->M β):M β:=fun s=> @Option.rec α (fun _=>R β) .bad (fun a=>f a s) o
noncomputable def oP(b:Bool):M Unit:=fun s=> @Bool.rec (fun _=>R Unit) .bad (.ok () s) b
noncomputable def aG(b:Bool)(m:M β):M β:=fun s=> @Bool.rec (fun _=>R β) .bad (m s) b
noncomputable def forced(n:Nat)(k:Nat->α):α:= @Nat.rec (fun _=>α) (k 0) (fun m _=>k<|m+1) n
theorem yB(n:Nat)(k:Nat->α):forced n k=k n:=by cases n<;>rfl
noncomputable def bt(n:Nat):M ae:=fun s=>
 @AS.rec (fun _=>R ae) (fun h nx mark rd wr=>
  @Bool.rec (fun _=>R ae) .bad
   (@Option.rec ae (fun _=>R ae) .bad
    (fun o=> @Bool.rec (fun _=>R ae) (.ok o ⟨h,nx,mark,rd,wr⟩) (.ok o ⟨h,nx,mark,n::rd,wr⟩)<|Nat.blt n mark)
    (h.get n))
   (Nat.blt n nx)) s
noncomputable def bJ(n:Nat)(o:Option ae):M Unit:=fun s=>
 @AS.rec (fun _=>R Unit) (fun h nx mark rd wr=>
  @Bool.rec (fun _=>R Unit) .bad
   (@Option.rec ae (fun _=>R Unit) .bad
    (fun p=> @Bool.rec (fun _=>R Unit)
     (@Bool.rec (fun _=>R Unit) (.ok () ⟨h.put n o,nx,mark,rd,wr⟩) (.ok () ⟨h.put n o,nx,mark,n::rd,n::wr⟩)<|Nat.blt n mark)
     .bad p.dh)
    (h.get n))
   (and (Nat.blt n nx)<|Nat.blt n top)) s
noncomputable def gA(o:ae):M Nat:=fun s=> @AS.rec (fun _=>R Nat) (fun h nx mark rd wr=> @Bool.rec (fun _=>R Nat) .bad (forced nx fun m=>.ok m ⟨h.put m<|some o,m+1,mark,rd,wr⟩)<|Nat.blt nx top) s
end Go.Rn
namespace Go.Rn
noncomputable section
def Fw:Value->Option AV
 | .bool b=>some<|.bool b
 | .int k n=>some<|.int k n
 | .string s=>some<|.str s
 | .pointer none=>some<|.ptr none
 | .slice none len cap=>match Nat.beq len 0&&Nat.beq cap 0 with
  |true=>some<|.slice none 0<|.known 0
  |false=>none
 | .map none=>some<|.map none
 | .nilFunc=>some .nilFunc
 | .nilIface=>some .nilIface
 |_=>none
def wO:List Value->Option (List AV)
 |[]=>some []
 |v::l=>match Fw v with
  |none=>none
  |some x=>match wO l with
   |none=>none
   |some r=>some<|x::r
def ofValue:Value->Option AV
 | .agg cs=>match wO cs.toList with
  |none=>none
  |some l=>some<|.agg l
 | .tuple cs=>match wO cs.toList with
  |none=>none
  |some l=>some<|.tuple l
 |v=>Fw v
def fI:Nat:=256
def aH(t:Tr AV)(x:Operand):Option AV:= @Operand.rec (fun _=>Option AV) (fun i=>t.get i) (fun v=>ofValue v) (fun g=> @Bool.rec (fun _=>Option AV) none (some<|.ptr<|some (g,0))<|Nat.blt g fI) (fun f=>some<|.func (.func f) [] []) x
def eF(P:Program)(t:TypeId):Option Nat:=
 match P.info? t with
 |none=>none
 |some i=>some i.size
def nB(P:Program)(t:TypeId):Option AV:=
 match P.info? t with
 |none=>none
 |some i=>match i.zero with
  |none=>none
  |some v=>ofValue v
def qp(P:Program)(t:TypeId):Option Bool:=
 match P.underlying t with
 |some (.struct _)=>some true
 |some (.array _ _)=>some true
 |some _=>some false
 |none=>none
def lO(t:Tr AV)(z:List AV):Nat->Nat->Option (List AV)
 |0,_=>some []
 |k+1,off=>match cellAt t z off with
  |none=>none
  |some v=>match lO t z k (off+1) with
   |none=>none
   |some l=>some<|v::l
def iY(n off:Nat):Nat->M (List AV)
 |0=>M.pure []
 |k+1=>(bt n).bind fun o=>match o with
  | .cells m t z=>aG (Nat.ble (off+(k+1)) m) <| lift<|lO t z (k+1) off
  | .ro m t=>aG (Nat.ble (off+(k+1)) m) <| lift<|lO t [] (k+1) off
  |_=>fail
def p0(n off:Nat)(l:List AV):M Unit:=
  match l with
  |[]=>M.pure ()
  | x ::r=>(bt n).bind fun o=>match o with
    | .cells m t z=>aG (and (Nat.ble (off+(r.length+1)) m)<|and (Nat.ble m top)<|(x::r).all AV.bR) <|
      bJ n (some<|.cells m (Tr.fill (x::r) off t) z)
    |_=>fail
def newRow(l:List AV):M Nat:=aG (and (Nat.ble l.length top)<|l.all AV.bR) <| gA<|.cells l.length (Tr.fill l 0 .nil) []
def one:List AV->Option AV
 |[v]=>some v
 |_=>none
def loadVar(P:Program)(t:TypeId)(n off:Nat):M AV:=
 aB (qp P t) fun ag=>match ag with
  |true=>aB (eF P t) fun k=>(iY n off k).bind fun l=>M.pure<|.agg l
  |false=>(iY n off 1).bind fun l=>lift<|one l
def storeVar(P:Program)(t:TypeId)(n off:Nat)(v:AV):M Unit:=aB (eF P t) fun k=>aG (Nat.beq v.cells.length k) <| p0 n off v.cells
def addrOf:AV->Option (Nat×Nat)
 | .ptr (some a)=>some a
 |_=>none
def intOf:AV->Option Int
 | .int _ n=>some n
 |_=>none
def w9:AV->Option Bool
 | .bool b=>some b
 |_=>none
def pz(P:Program)(t:TypeId)(cs:List AV)(off:Nat):Option AV:=
 match qp P t with
 |none=>none
 |some true=>match eF P t with
  |none=>none
  |some k=>some<|.agg<|(cs.drop off).take k
 |some false=>cs[off]?
def setCells:List AV->List AV->Nat->List AV
 |cs,[],_=>cs
 |cs,c::l,off=>setCells (cs.set off c) l<|off+1
def xc(place:Nat->Option (Nat×Nat)):List AV->List (Nat×AV)->Option (List AV)
 |cells,[]=>some cells
 |cells,(i,v)::rest=>match place i with
  |none=>none
  |some (off,size)=>
   match Nat.beq v.cells.length size&&Nat.ble (off+v.cells.length) cells.length with
   |false=>none
   |true=>xc place (setCells cells v.cells off) rest
def jS(ev:Operand->Option AV):List Operand->Option (List AV)
 |[]=>some []
 |x::l=>match ev x with
  |none=>none
  |some v=>match jS ev l with
   |none=>none
   |some r=>some<|v::r
def ve(ev:Operand->Option AV):List (Nat×Operand)->Option (List<|Nat×AV)
 |[]=>some []
 |(i,x)::l=>match ev x with
  |none=>none
  |some v=>match ve ev l with
   |none=>none
   |some r=>some<|(i,v)::r
def Ax(P:Program):List Field->Option (List<|Nat×Nat)
 |[]=>some []
 |f::l=>match eF P f.type with
  |none=>none
  |some k=>match Ax P l with
   |none=>none
   |some r=>some<|(f.offset,k)::r
def build(P:Program)(t:TypeId)(parts:List<|Nat×AV):Option AV:=
 match nB P t with
 |none=>none
 |some z=>match P.underlying t with
  |some (.struct fs)=>match Ax P fs.toList with
   |none=>none
   |some pl=>match xc (fun i=>pl[i]?) z.cells parts with
    |none=>none
    |some l=>some<|.agg l
  |some (.array _ e)=>match eF P e with
   |none=>none
   |some k=>match xc (fun i=>some (i*k,k)) z.cells parts with
    |none=>none
    |some l=>some<|.agg l
  |_=>none
def Cv:Nat->List AV->List AV
 |0,_=>[]
 |n+1,z=>z++Cv n z
def buildSlice(P:Program)(t:TypeId)(len:Nat)(parts:List<|Nat×AV):M AV:=do
  match P.underlying t with
  | some (.slice e)=>do
    let k ←lift (eF P e)
    let z ←lift (nB P e)
    oP (Nat.ble (len*k) 1048576&&Nat.beq z.cells.length k)
    let l ←lift (xc (fun i=>some (i*k,k)) (Cv len z.cells) parts)
    let r ←newRow l
    pure (.slice (some (r,0)) len<|.known len)
  |_=>fail
def fieldAddr(P:Program)(s:TypeId)(x:AV)(field:Nat):Option AV:=
 match P.underlying s with
 |some (.struct fs)=>match fs[field]? with
  |none=>none
  |some f=>match eF P f.type with
   |none=>none
   |some k=>match Nat.beq k 0 with
    |true=>none
    |false=>match x with
     | .ptr (some (n,o))=>some<|.ptr<|some (n,o+f.offset)
     | .pF n o=>some<|.pF n<|o+f.offset
     |_=>none
 |_=>none
def Ug(P:Program)(s:TypeId)(x:AV)(field:Nat):Option AV:=
 match P.underlying s,x with
 |some (.struct fs),.agg cs=>match fs[field]? with
  |none=>none
  |some f=>pz P f.type cs f.offset
 |_,_=>none
def within(i:Int)(len:Nat):Option Nat:=
 match i with
 | .ofNat n=>match Nat.blt n len with
  |true=>some n
  |false=>none
 | .negSucc _=>none
def indexAddr(P:Program)(t:TypeId)(x ix:AV):Option AV:=
 match intOf ix with
 |none=>none
 |some i=>match P.underlying t,x with
  |some (.array len e),.ptr (some (n,o))=>match within i len,eF P e with
   |some j,some k=>some<|.ptr<|some (n,o+j*k)
   |_,_=>none
  |some (.slice e),.slice (some (n,o)) len _=>match within i len,eF P e with
   |some j,some k=>some<|.ptr<|some (n,o+j*k)
   |_,_=>none
  |some (.slice e),.U n o len=>match within i len,eF P e with
   |some j,some k=>some<|.pF n<|o+j*k
   |_,_=>none
  |_,_=>none
def indexOf(P:Program)(t:TypeId)(x ix:AV):Option AV:=
 match intOf ix with
 |none=>none
 |some i=>match P.underlying t,x with
  |some (.array len e),.agg cs=>match within i len,eF P e with
   |some j,some k=>pz P e cs<|j*k
   |_,_=>none
  |some .string,.str s=>match within i s.size with
   |some j=>match s.data.toList[j]? with
    |some b=>some<|.int .u8 b.toNat
    |none=>none
   |none=>none
  |_,_=>none
def bound(x:Option AV)(tF ahC:Nat):Option Nat:=
 match x with
 |none=>some ahC
 |some v=>match intOf v with
  |none=>none
  |some i=>within i<|tF+1
def opt(ev:Operand->Option AV):Option Operand->Option (Option AV)
 |none=>some none
 |some x=>match ev x with
  |none=>none
  |some v=>some<|some v
def iZ(len:Nat)(c:bW):Nat:=
 match c with
 | .known c=>c
 | .aq lo _=>lo
 | .lost=>len
def slice3(k:Nat)(a:Option<|Nat×Nat)(low:Nat)(lo hi:Option AV)(mx:AV):Option AV:=
 match bound (some mx) low 0 with
 |none=>none
 |some m=>match hi with
  |none=>none
  |some hi=>match bound (some hi) m 0 with
   |none=>none
   |some h=>match bound lo h 0 with
    |none=>none
    |some l=>match a with
     |none=>some<|.slice none (h - l)<|.known<|m - l
     |some (n,o)=>match Nat.beq m l with
      |true=>some<|.slice (some (n,o)) (h - l)<|.known<|m - l
      |false=>some<|.slice (some (n,o+l*k)) (h - l)<|.known<|m - l
def wP(P:Program)(t:TypeId)(x:AV)(lo hi mx:Option AV):Option AV:=
 match P.underlying t,x with
 |some (.slice e),.slice a len cap=>
  match eF P e with
  |none=>none
  |some k=>
   match mx with
   |some mx=>match cap with
    | .lost=>none
    |cap=>slice3 k a (iZ len cap) lo hi mx
   |none=>
    match bound hi (iZ len cap) len with
    |none=>none
    |some h=>match bound lo h 0 with
     |none=>none
     |some l=>match a,cap with
      |none,.known c=>some<|.slice none (h - l)<|.known<|c - l
      |none,_=>none
      |some (n,o),.known c=>match Nat.beq c l with
       |true=>some<|.slice (some (n,o)) (h - l)<|.known<|c - l
       |false=>some<|.slice (some (n,o+l*k)) (h - l)<|.known<|c - l
      |some (n,o),.aq b e=>match Nat.beq l 0 with
       |true=>some<|.slice (some (n,o)) (h - l)<|.aq b e
       |false=>none
      |some _,.lost=>none
 |some (.array len e),.ptr (some (n,o))=>
  match eF P e with
  |none=>none
  |some k=>match mx with
   |some _=>none
   |none=>match bound hi len len with
    |none=>none
    |some h=>match bound lo h 0 with
     |none=>none
     |some l=>match Nat.beq len l with
      |true=>some<|.slice (some (n,o)) (h - l)<|.known<|len - l
      |false=>some<|.slice (some (n,o+l*k)) (h - l)<|.known<|len - l
 |_,_=>none
def room:Nat:=140737488355328
def makeSlice(P:Program)(t:TypeId)(len cap:AV):M AV:=
 match P.underlying t with
 |some (.slice e)=>
  aB (intOf len) fun l=>aB (intOf cap) fun c=>aB (P.info? e) fun i=>aB (within c room) fun c=>aB (within l<|c+1) fun l=>aB (nB P e) fun z=>
  aG (and (Nat.ble (c*i.bytes) room)<|and (Nat.ble (c*i.size) top)<|and (or (Nat.beq (c*i.size) 0)<|not<|Nat.beq z.cells.length 0)<|z.cells.all AV.bR) <|
  (gA<|.cells (c*i.size) .nil z.cells).bind fun r=>M.pure<|.slice (some (r,0)) l<|.known c
 |_=>fail
def alr(s:ByteArray):List AV:=s.data.toList.map fun b=>.int .u8 b.toNat
def firstCells(size n:Nat):AV->M (List AV)
 | .slice (some _) 0 .lost=>aG (Nat.beq n 0) <| M.pure []
 | .slice (some (m,o)) _ _=>iY m o<|n*size
 | .slice none _ _=>M.pure []
 |_=>fail
def bytesOf:List AV->Option (List UInt8)
 |[]=>some []
 | .int .u8 n::l=>match bytesOf l with
  |none=>none
  |some r=>some<|n.toNat.toUInt8::r
 |_::_=>none
def lenOf:AV->Option Nat
 | .slice _ n _=>some n
 |_=>none
def grown(size bytes mU:Nat)(dy new:List AV):M AV:=
 aG (and (Nat.ble (2*mU*bytes+4096*bytes) room)<|not<|Nat.beq bytes 0) <|
 (newRow<|dy++new).bind fun r=>M.pure<|.slice (some (r,0)) mU<|.aq mU size
def wD(n off:Nat)(l:List AV):M Unit:=
  match l with
  |[]=>M.pure ()
  | x ::r=>(bt n).bind fun o=>match o with
    | .cells m t z=>aG (and (Nat.ble off m)<|and (Nat.ble (max m<|off+(r.length+1)) top)<|(x::r).all AV.bR) <|
      bJ n (some<|.cells (max m<|off+(r.length+1)) (Tr.fill (x::r) off t) z)
    |_=>fail
def ae.yF:ae->Bool
 | .cells _ _ _=>true
 |_=>false
def ss(i:TypeInfo):Bool:=
 match i.zero with
 |none=>false
 |some v=>Nat.beq v.cells.size i.size
def qR(size bytes:Nat)(base:Option<|Nat×Nat)(len:Nat)(cap:bW)(n:Nat)(new:List AV):M AV:=
 match cap with
 | .known c=>match Nat.ble (len+n) c with
  |true=>(match base with
   |some (m,o)=>p0 m (o+len*size) new
   |none=>M.pure ()).bind fun _=>M.pure (.slice base (len+n)<|.known c)
  |false=>(firstCells size len<|.slice base len<|.known c).bind fun dy=>grown size bytes (len+n) dy new
 | .aq lo sz=>aG (Nat.beq sz size) <| match Nat.ble (len+n) lo with
  |true=>match base with
   |some (m,o)=>(wD m (o+len*size) new).bind fun _=>M.pure<|.slice (some (m,o)) (len+n)<|.aq lo sz
   |none=>fail
  |false=>match base with
   |some (m,0)=>(iY m 0<|len*size).bind fun dy=>(bt m).bind fun o=>aG o.yF <| (bJ m none).bind fun _=>grown size bytes (len+n) dy new
   |_=>fail
 | .lost=>fail
def po(P:Program)(t:Option TypeId):Bool:=
 match t with
 |none=>true
 |some t=>match P.underlying t with
  |some (.int _)=>false
  |some _=>true
  |none=>false
def pn(P:Program)(argTypes:Array TypeId)(s x:AV):M AV:=
 aB argTypes[0]? fun t=>match P.underlying t,s with
 |some (.slice e),.slice base len cap=>
  aB (P.info? e) fun i=>aG (and (ss i)<|po P argTypes[1]?) <| aB (lenOf x) fun n=>(firstCells i.size n x).bind fun new=>
  aG (Nat.beq new.length<|n*i.size) <| qR i.size i.bytes base len cap n new
 |_,_=>fail
def acK:AV->Bool
 | .slice _ _ .lost=>false
 |_=>true
def yM(P:Program)(argTypes:Array TypeId)(d x:AV):M AV:=
 aB argTypes[0]? fun t=>match P.underlying t,d with
 |some (.slice e),.slice base len cap=>
  aB (eF P e) fun k=>aB (lenOf x) fun m=>aG (acK<|.slice base len cap) <| (firstCells k (Nat.min m len) x).bind fun cells=>
  (match base with
  |some (r,o)=>p0 r o cells
  |none=>M.pure ()).bind fun _=>M.pure (.int .i64 (Nat.min m len:Nat))
 |_,_=>fail
def eqFields(P:Program)(eq:TypeId->AV->AV->Option Bool)(xs ys:List AV):List Field->Option Bool
 |[]=>some true
 |f::l=>match f.name == "_" with
  |true=>eqFields P eq xs ys l
  |false=>match pz P f.type xs f.offset,pz P f.type ys f.offset with
   |some a,some b=>match eq f.type a b with
    |none=>none
    |some false=>some false
    |some true=>eqFields P eq xs ys l
   |_,_=>none
def acL(P:Program)(eq:TypeId->AV->AV->Option Bool)(t:TypeId)(k:Nat)(xs ys:List AV):Nat->Nat->Option Bool
 |0,_=>some true
 |n+1,i=>match pz P t xs (i*k),pz P t ys (i*k) with
  |some a,some b=>match eq t a b with
   |none=>none
   |some false=>some false
   |some true=>acL P eq t k xs ys n<|i+1
  |_,_=>none
def Pv(n len:Nat):Option Bool:=match len with
 |0=>match Nat.beq n top with
  |true=>some true
  |false=>match Nat.beq n (top+1) with
   |true=>some false
   |false=>none
 |_+1=>some false
def mo(P:Program):Nat->TypeId->AV->AV->Option Bool
 |0,_,_,_=>none
 |d+1,t,x,y=>
  match P.underlying t,x,y with
  |some .bool,.bool a,.bool b=>some<|a == b
  |some (.int _),.int k a,.int k' b=>match decide (k=k') with
   |true=>some<|a == b
   |false=>none
  |some (.pointer _),.ptr none,.ptr b=>some b.isNone
  |some (.pointer _),.ptr (some _),.ptr none=>some false
  |some (.struct fs),.agg xs,.agg ys=>match P.stoodInHeld t with
   |true=>none
   |false=>eqFields P (mo P d) xs ys fs.toList
  |some (.slice _),.slice none _ _,.slice b _ _=>some b.isNone
  |some (.slice _),.slice (some _) _ _,.slice none _ _=>some false
  |some (.slice _),.U n _ len,.slice none _ _=>Pv n len
  |_,_,_=>none
def isConst:Operand->Bool
 | .const _=>true
 |_=>false
def Mg(P:Program)(t:TypeId)(x y:Operand)(a b:AV):Bool:=
 match a,b with
 | .nilIface,.nilIface=>isConst x||isConst y
 | .agg _,.agg _=> !P.eqGuardType P.depth t
 |_,_=>true
def Dd(op:BinOp)(k:IntKind)(a b:Int):Option AV:=
 match op with
 | .add=>some<|.int k<|k.wrap<|a+b
 | .sub=>some<|.int k<|k.wrap<|a - b
 | .mul=>some<|.int k<|k.wrap<|a*b
 | .quo=>match decide (b=0) with
  |true=>none
  |false=>some<|.int k<|k.wrap<|a.tdiv b
 | .rem=>match decide (b=0) with
  |true=>none
  |false=>some<|.int k<|a.tmod b
 | .and=>some<|.int k<|k.wrap (BitVec.ofInt k.bits a&&& BitVec.ofInt k.bits b).toNat
 | .or=>some<|.int k<|k.wrap (BitVec.ofInt k.bits a|||BitVec.ofInt k.bits b).toNat
 | .xor=>some<|.int k<|k.wrap (BitVec.ofInt k.bits a ^^^ BitVec.ofInt k.bits b).toNat
 | .andNot=>some<|.int k<|k.wrap (BitVec.ofInt k.bits a&&& ~~~BitVec.ofInt k.bits b).toNat
 | .eql=>some<|.bool<|a == b
 | .neq=>some<|.bool<|a != b
 | .lss=>some<|.bool<|a<b
 | .leq=>some<|.bool<|a<=b
 | .gtr=>some<|.bool<|a>b
 | .geq=>some<|.bool<|a>=b
 |_=>none
def Nx(op:BinOp)(k:IntKind)(x y:Int):Option AV:=
 match decide (y<0) with
 |true=>none
 |false=>match op with
  | .shl=>some<|.int k<|k.wrap<|x*2 ^ min y.toNat k.bits
  | .shr=>some<|.int k<|x.fdiv<|2 ^ min y.toNat k.bits
  |_=>none
def alL(op:BinOp)(x y:ByteArray):Option AV:=
 match op with
 | .add=>match Nat.ble (x.size+y.size) room with
  |true=>some<|.str<|x++y
  |false=>none
 | .eql=>some<|.bool<|x.toList == y.toList
 | .neq=>some<|.bool<|!(x.toList == y.toList)
 | .lss=>some<|.bool<|Op.bytesLess x.toList y.toList
 | .leq=>some<|.bool<|Op.bytesLess x.toList y.toList||x.toList == y.toList
 | .gtr=>some<|.bool<|!(Op.bytesLess x.toList y.toList||x.toList == y.toList)
 | .geq=>some<|.bool<|!Op.bytesLess x.toList y.toList
 |_=>none
def yG:BinOp->Bool
 | .shl| .shr=>true
 |_=>false
def sM(P:Program)(op:BinOp)(t:TypeId)(x y:AV):Option AV:=
 match x,y with
 | .int k a,.int k' b=>match yG op with
  |true=>Nx op k a b
  |false=>match decide (k=k') with
   |true=>Dd op k a b
   |false=>none
 |x,y=>match op with
  | .eql=>match mo P Op.maxDepth t x y with
   |none=>none
   |some b=>some<|.bool b
  | .neq=>match mo P Op.maxDepth t x y with
   |none=>none
   |some b=>some<|.bool !b
  |_=>none
def VT(op:UnOp)(x:AV):Option AV:=
 match op,x with
 | .not,.bool b=>some<|.bool !b
 |_,_=>none
def MQ(P:Program)(src dst:TypeId)(x:AV):Option AV:=
 match P.underlying src,P.underlying dst,x with
 |some _,some (.int k),.int _ n=>some<|.int k<|k.wrap n
 |_,_,_=>none
def plainKey(P:Program)(t:TypeId)(key:AV):Bool:=
 match P.underlying t,key with
 |some (.int _),.int _ _=>true
 |some .string,.str _=>true
 |some .bool,.bool _=>true
 |_,_=>false
def kI(key:AV):List (AV×AV)->Nat->Option (Option<|Nat×AV)
 |[],_=>some none
 |(k,v)::l,i=>match sameKey key k with
  |none=>none
  |some true=>some<|some (i,v)
  |some false=>kI key l<|i+1
def EW(P:Program)(t:TypeId)(key:AV):List (AV×AV)->Nat->Option (Option<|Nat×AV)
 |[],_=>some none
 |(k,v)::l,i=>match mo P Op.maxDepth t key k with
  |none=>none
  |some true=>some<|some (i,v)
  |some false=>EW P t key l<|i+1
def tZ:AV->Bool
 | .Gc _=>false
 |_=>true
def findKey(P:Program)(t:TypeId)(key:AV)(es:List<|AV×AV):Option<|Option<|Nat×AV:=
 match tZ key with
 |false=>none
 |true=>match plainKey P t key with
  |true=>kI key es 0
  |false=>EW P t key es 0
def EG(P:Program)(BG:TypeId->AV->Bool)(cs:List AV):List Field->Bool
 |[]=>true
 |f::l=>match f.name == "_" with
  |true=>EG P BG cs l
  |false=>match pz P f.type cs f.offset with
   |none=>false
   |some a=>match BG f.type a with
    |true=>EG P BG cs l
    |false=>false
def ox(P:Program):Nat->TypeId->AV->Bool
 |0,_,_=>false
 |d+1,t,x=>match P.underlying t,x with
  |some .bool,_=>true
  |some (.int _),_=>true
  |some .string,_=>true
  |some (.struct fs),.agg cs=>EG P (ox P d) cs fs.toList
  |_,_=>false
def Vc(r:Nat):M<|List<|AV×AV:=do
 match ←bt r with
 | .map es _=>pure es
 | .lq es=>pure es
 |_=>fail
def short:List (AV×AV)->Bool
 |[]=>true
 |[_]=>true
 |_=>false
def yN(P:Program)(k:TypeId)(key x:AV):M<|List<|AV×AV:=
 match x with
 | .map none=>M.pure []
 | .map (some r)=>(bt r).bind fun o=>match o with
  | .map es _=>M.pure es
  | .lq es=>aG (or (plainKey P k key)<|short es) <| M.pure es
  |_=>fail
 |_=>fail
def zF(ok:Bool)(v:AV)(b:Bool):AV:=
 match ok with
 |true=>.tuple [v,.bool b]
 |false=>v
def yH(P:Program)(t:TypeId)(x key:AV)(ok:Bool):M AV:=
 match P.underlying t with
 |some (.map k e)=>(yN P k key x).bind fun es=>aG (ox P 10000 k key) <| aB (findKey P k key es) fun f=>match f with
  |some q=>M.pure<|zF ok q.2 true
  |none=>aB (nB P e) fun z=>M.pure<|zF ok z false
 |_=>fail
def CG:List AV->List AV->Bool
 |[],[]=>true
 |x::xs,y::ys=>match sameKey x y with
  |some true=>CG xs ys
  |_=>false
 |_,_=>false
def sameBits:AV->AV->Bool
 | .agg xs,.agg ys=>CG xs ys
 |x,y=>match sameKey x y with
  |some true=>true
  |_=>false
def putAt:List (AV×AV)->Nat->AV->AV->List (AV×AV)
 |[],_,_,_=>[]
 |_::l,0,k,v=>(k,v)::l
 |x::l,i+1,k,v=>x::putAt l i k v
def De(r:Nat)(key val:AV)(es:List<|AV×AV)(bp:Nat)(f:Option<|Nat×AV):M Unit:=
 match f with
 |some q=>aB es[q.1]? fun dy=>aG (sameBits dy.1 key) <| bJ r<|some<|.map (putAt es q.1 key val) bp
 |none=>bJ r<|some<|.map (es++[(key,val)])<|bp+1
def An(r:Nat)(key val:AV)(es:List<|AV×AV)(f:Option<|Nat×AV):M Unit:=
 match f with
 |some q=>bJ r<|some<|.lq<|putAt es q.1 key val
 |none=>bJ r<|some<|.lq<|es++[(key,val)]
def xd(P:Program)(t:TypeId)(m key val:AV):M Unit:=
 match P.underlying t,m with
 |some (.map k _),.map (some r)=>(bt r).bind fun o=>match o with
  | .map es bp=>aG (ox P 10000 k key) <| aB (findKey P k key es) fun f=>De r key val es bp f
  | .lq es=>aG (and (plainKey P k key)<|ox P 10000 k key) <| aB (findKey P k key es) fun f=>An r key val es f
  |_=>fail
 |_,_=>fail
def zl(P:Program)(argTypes:Array TypeId)(x:AV):M AV:=do
 let t ←lift argTypes[0]?
 match P.underlying t,x with
 |some (.slice _),.slice _ n _=>pure<|.int .i64 n
 |some (.slice _),.U _ _ n=>pure<|.int .i64 n
 |_,_=>fail
def min2:AV->AV->Option AV
 | .int k x,.int _ y=>some<|.int k (match decide (y<x) with|true=>y|false=>x)
 |_,_=>none
def max2:AV->AV->Option AV
 | .int k x,.int _ y=>some<|.int k (match decide (y>x) with|true=>y|false=>x)
 |_,_=>none
def CT(f:AV->AV->Option AV):List AV->AV->Option AV
 |[],x=>some x
 |y::l,x=>match f x y with
  |none=>none
  |some z=>CT f l z
def Vd(P:Program)(argTypes:Array TypeId)(x:AV):M AV:=do
  let t ←lift argTypes[0]?
  match P.underlying t,x with
  |some (.slice _),.slice none _ _=>pure om
  | some (.slice e),.slice (some (n,o)) len cap=>do
    oP (match cap with| .lost=>false|_=>true)
    let z ←lift (nB P e)
    p0 n o (Cv len z.cells)
    pure om
  |_,_=>fail
def yC(P:Program)(b:Builtin)(argTypes:Array TypeId)(args:List AV):M AV:=
 match b,args with
 | .len,[x]=>zl P argTypes x
 | .append,[s,x]=>pn P argTypes s x
 | .copy,[d,x]=>yM P argTypes d x
 | .min,x::l=>lift<|CT min2 l x
 | .max,x::l=>lift<|CT max2 l x
 |_,_=>fail
inductive GG where
 |fn (f:FuncId)
 |round (l:Nat)
 |row (n o k:Nat)
def mV(YG:GG->List AV->M AV)(f:AV)(args:List AV):M AV:=
 match f with
 | .func (.func g) first captured=>YG (.fn g)<|first++args++captured
 | .yield l=>YG (.round l) args
 |_=>fail
def alC(P:Program)(t:TypeId)(name:String):Option FuncId:=
 match P.info? t with
 |none=>none
 |some i=>match i.methods.toList.find? (·.name == name) with
  |none=>none
  |some m=>match m.path.isEmpty,m.func with
   |true,some (f,ptr)=>match P.underlying t,ptr with
    |some (.pointer _),true=>some f
    |some (.pointer _),false=>none
    |some _,false=>some f
    |_,_=>none
   |_,_=>none
abbrev aK:=GG->List AV->M AV
abbrev gD:=aK->Tr AV->M AV
inductive qD (α:Type) where
 |mk (a:α)
def vg(x:Operand):gD:=fun _ t=>lift<|aH t x
def Bc(c a b:Operand):gD:=fun _ t=>
 aB (aH t c) fun c=>aB (w9 c) fun c=>aB (aH t a) fun a=>aB (aH t b) fun b=>
  match c with
  |true=>M.pure a
  |false=>M.pure b
def I2(P:Program)(e:TypeId):gD:=fun _ _=>aB (nB P e) fun z=>(newRow z.cells).bind fun r=>M.pure<|.ptr<|some (r,0)
def Bk(x:Operand):gD:=fun _ t=>aB (aH t x) fun v=>(newRow v.cells).bind fun r=>M.pure<|.ptr<|some (r,0)
def AP(P:Program)(ty:TypeId)(parts:List<|Nat×Operand):gD:=fun _ t=>aB (ve (aH t) parts) fun ps=>lift<|build P ty ps
def Ae(P:Program)(ty:TypeId)(len:Nat)(parts:List<|Nat×Operand):gD:=fun _ t=>aB (ve (aH t) parts) fun ps=>buildSlice P ty len ps
def wQ(P:Program)(ty:TypeId)(n o:Nat):M AV:=
 aB (qp P ty) fun ag=>match ag with
  |true=>fail
  |false=>(bt n).bind fun ob=>match ob with
   | .th m t=>aG (Nat.blt o m) <| lift<|t.get o
   |_=>fail
def uS(P:Program)(ty:TypeId)(YG:aK)(n o:Nat):M AV:=
 aB (qp P ty) fun ag=>aB (eF P ty) fun k=>(YG (.row n o (match ag with|true=>k|false=>1)) []).bind fun v=>match v with
  | .agg l=>match ag with
   |true=>M.pure<|.agg l
   |false=>lift<|one l
  |_=>fail
def loadAt(P:Program)(ty:TypeId)(YG:aK)(a:AV):M AV:=
 match a with
 | .pF n o=>match Nat.ble top n with
  |true=>uS P ty YG n o
  |false=>wQ P ty n o
 |a=>aB (addrOf a) fun a=>loadVar P ty a.1 a.2
def ti(P:Program)(ty:TypeId)(a:Operand):gD:=fun YG t=>aB (aH t a) fun a=>loadAt P ty YG a
def xe(P:Program)(ty:TypeId)(a x:Operand):gD:=fun _ t=>aB (aH t a) fun a=>aB (addrOf a) fun a=>aB (aH t x) fun v=>(storeVar P ty a.1 a.2 v).bind fun _=>M.pure om
def notNil:AV->Bool
 | .ptr none| .nilIface| .nilFunc=>false
 | .func (.func _) _ _=>true
 | .func _ _ _=>false
 |_=>true
def Ah(x:Operand):gD:=fun _ t=>aB (aH t x) fun v=>aG (notNil v) <| M.pure v
def Ay(P:Program)(op:BinOp)(t:TypeId)(x y:Operand)(a b:AV):Bool:=
 match op with
 | .eql| .neq=>Mg P t x y a b
 |_=>true
def oQ(P:Program)(op:BinOp)(ty:TypeId)(x y:Operand):gD:=fun _ t=>aB (aH t x) fun a=>aB (aH t y) fun b=>aG (Ay P op ty x y a b) <| lift<|sM P op ty a b
def BH(op:UnOp)(x:Operand):gD:=fun _ t=>aB (aH t x) fun a=>lift<|VT op a
def isByte(P:Program)(e:TypeId):Bool:=
 match P.underlying e with
 |some (.int .u8)=>true
 |_=>false
def toText(P:Program)(src dst:TypeId)(a:AV)(n:Nat):M AV:=
 match P.underlying src,P.underlying dst with
 |some (.slice e),some .string=>aG (isByte P e) <| (firstCells 1 n a).bind fun l=>aB (bytesOf l) fun b=>M.pure<|.str ⟨b.toArray⟩
 |_,_=>fail
def acM(o:ae)(n:Nat):Bool:=
 match o with
 | .cells m t z=>match t with
  | .nil=>match z with
   |[.int .u8 k]=>Nat.ble n m&&decide (k=0)
   |_=>false
  |_=>false
 |_=>false
def zeroOf(a:AV)(n:Nat):M AV:=
 match a with
 | .slice (some (r,o)) _ (.known _)=>aG (Nat.beq o 0) <| (bt r).bind fun o=>aG (acM o n) <| M.pure<|.Gc n
 |_=>fail
def toZero(P:Program)(src dst:TypeId)(a:AV)(n:Nat):M AV:=
 match P.underlying src,P.underlying dst with
 |some (.slice e),some .string=>aG (isByte P e) <| zeroOf a n
 |_,_=>fail
def Ao(P:Program)(src dst:TypeId)(x:Operand):gD:=fun _ t=>
 aB (aH t x) fun a=>match a with
  | .slice _ _ _=>fail
  |a=>lift<|MQ P src dst a
def alD(P:Program)(t:TypeId)(a:AV):Option AV:=
 match P.underlying t with
 |none=>none
 |some (.interface _)=>none
 |some _=>some<|.iface t a
def Cj(P:Program)(ty:TypeId)(x:Operand):gD:=fun _ _=>fail
def Wv:Fn->Bool
 | .func _=>true
 |_=>false
def Ai(fn:Fn)(first captured:List Operand):gD:=fun _ t=>aG (Wv fn) <| aB (jS (aH t) first) fun f=>aB (jS (aH t) captured) fun c=>M.pure<|.func fn f c
def JB(P:Program)(t:TypeId):Bool:=
 match P.underlying t with
 |some (.map _ _)=>true
 |_=>false
def Ap(P:Program)(ty:TypeId)(r:Option Operand):gD:=fun _ t=>
 (match r with
 |none=>M.pure ()
 |some x=>aB (aH t x) fun v=>aB (intOf v) fun _=>oP<|JB P ty).bind fun _=>
 (gA<|.map [] 0).bind fun n=>M.pure<|.map<|some n
def Af(P:Program)(ty:TypeId)(l c:Operand):gD:=fun _ t=>aB (aH t l) fun l=>aB (aH t c) fun c=>makeSlice P ty l c
def sO(P:Program)(ty:TypeId)(x:Operand)(lo hi mx:Option Operand):gD:=fun _ t=>aB (aH t x) fun x=>aB (opt (aH t) lo) fun lo=>aB (opt (aH t) hi) fun hi=>aB (opt (aH t) mx) fun mx=>lift<|wP P ty x lo hi mx
def Ag(P:Program)(s:TypeId)(x:Operand)(f:Nat):gD:=fun _ t=>aB (aH t x) fun x=>lift<|fieldAddr P s x f
def AQ(P:Program)(s:TypeId)(x:Operand)(f:Nat):gD:=fun _ t=>aB (aH t x) fun x=>lift<|Ug P s x f
def p6(P:Program)(ty:TypeId)(x i:Operand):gD:=fun _ t=>aB (aH t x) fun x=>aB (aH t i) fun i=>lift<|indexAddr P ty x i
def AR(P:Program)(ty:TypeId)(x i:Operand):gD:=fun _ t=>aB (aH t x) fun x=>aB (aH t i) fun i=>lift<|indexOf P ty x i
def wR(P:Program)(ty:TypeId)(x i:Operand)(ok:Bool):gD:=fun _ t=>aB (aH t x) fun x=>aB (aH t i) fun i=>yH P ty x i ok
def p8(P:Program)(ty:TypeId)(m k x:Operand):gD:=fun _ t=>aB (aH t m) fun m=>aB (aH t k) fun k=>aB (aH t x) fun x=>(xd P ty m k x).bind fun _=>M.pure om
def acN(P:Program)(asserted:TypeId)(ok:Bool)(v:AV):Option AV:=
 match v with
 | .iface t y=>match Nat.beq t asserted with
  |true=>match ok with
   |true=>some<|.tuple [y,.bool true]
   |false=>some y
  |false=>match ok with
   |true=>match nB P asserted with
    |none=>none
    |some z=>some<|.tuple [z,.bool false]
   |false=>none
 | .nilIface=>match ok with
  |true=>match nB P asserted with
   |none=>none
   |some z=>some<|.tuple [z,.bool false]
  |false=>none
 |_=>none
def alE(P:Program)(asserted:TypeId)(ok:Bool)(v:AV):Option AV:=
 match P.underlying asserted with
 |none=>none
 |some (.interface _)=>none
 |some _=>acN P asserted ok v
def CH(P:Program)(asserted:TypeId)(ok:Bool)(x:Operand):gD:=fun _ _=>fail
def Az(P:Program)(ty:TypeId)(x:AV):M AV:=
 match P.underlying ty,x with
 |some (.map _ _),.map (some m)=>(bt m).bind fun o=>match o with
  | .map es _=>(bJ m<|some .iA).bind fun _=>(gA<|.iter m es true es none).bind fun n=>M.pure<|.ptr<|some (n,0)
  | .lq es=>(bJ m<|some .iA).bind fun _=>(gA<|.iter m es false es none).bind fun n=>M.pure<|.ptr<|some (n,0)
  |_=>fail
 |_,_=>fail
def AT(P:Program)(ty:TypeId)(x:Operand):gD:=fun _ t=>aB (aH t x) fun x=>Az P ty x
def acO(x:AV):M AV:=
 match x with
 | .ptr (some (n,0))=>(bt n).bind fun o=>match o with
  | .Ff b pos=>match Nat.blt pos b.size with
   |true=>(bJ n<|some<|.Ff b<|pos+(Utf8.decode b pos).2).bind fun _=>M.pure<|.tuple [.bool true,.int .i64 pos,.int .i32 (Utf8.decode b pos).1]
   |false=>M.pure<|.tuple [.bool false]
  |_=>fail
 |_=>fail
def Cw(x:Operand):gD:=fun _ _=>fail
def CI(x:AV):M AV:=
 match x with
 | .ptr (some (n,0))=>(bt n).bind fun o=>match o with
  | .iter _ _ _ _ (some (k,v))=>M.pure<|.tuple [k,v]
  |_=>fail
 |_=>fail
def AU(x:Operand):gD:=fun _ t=>aB (aH t x) fun x=>CI x
def partOf(x:AV)(i:Nat):Option AV:=
 match x with
 | .tuple l=>l[i]?
 |_=>none
def Aq(x:Operand)(i:Nat):gD:=fun _ t=>aB (aH t x) fun x=>lift<|partOf x i
def su(YG:aK)(n o k:Nat):M<|List AV:=match k with
 |0=>M.pure []
 |k=>(YG (.row n o k) []).bind fun x=>match x with
  | .agg l=>aG (Nat.beq l.length k) <| M.pure l
  |_=>fail
def OQ(size len:Nat)(cap:bW):Bool:=
 match cap with
 | .known c=>and (Nat.beq c 0)<|Nat.beq len 0
 | .aq _ sz=>Nat.beq sz size
 | .lost=>false
def AA(P:Program)(YG:aK)(argTypes:Array TypeId)(s:AV)(n o k:Nat):M AV:=
 aG (Nat.ble top n) <| aB argTypes[0]? fun t=>match P.underlying t,s with
 |some (.slice e),.slice (some (m,0)) len cap=>
  aB (P.info? e) fun i=>aG (and (ss i)<|po P argTypes[1]?) <| aG (OQ i.size len cap) <|
  (su YG n o<|k*i.size).bind fun new=>(iY m 0<|len*i.size).bind fun dy=>(bt m).bind fun ob=>aG ob.yF <| (bJ m none).bind fun _=>grown i.size i.bytes (len+k) dy new
 |_,_=>fail
def og(P:Program)(b:Builtin)(argTypes:Array TypeId)(args:List Operand):gD:=fun YG t=>
 aB (jS (aH t) args) fun args=>match b,args with
 | .append,[s,.U n o k]=>AA P YG argTypes s n o k
 |b,args=>yC P b argTypes args
def tj(f:Operand)(args:List Operand):gD:=fun YG t=>aB (jS (aH t) args) fun args=>aB (aH t f) fun f=>mV YG f args
def Ny(P:Program)(recv:Operand)(name:String)(args:List Operand):gD:=fun _ _=>fail
def VU:gD:=fun _ _=>fail
def du(P:Program)(op:Op):qD gD:=
 match op with
 | .move x=>.mk<|vg x
 | .assign x=>.mk<|vg x
 | .pick c a b=>.mk<|Bc c a b
 | .alloc e=>.mk<|I2 P e
 | .box _ x=>.mk<|Bk x
 | .build t parts=>.mk<|AP P t parts.toList
 | .buildSlice t len parts=>.mk<|Ae P t len parts.toList
 | .load t a=>.mk<|ti P t a
 | .store t a x=>.mk<|xe P t a x
 | .nilCheck x=>.mk<|Ah x
 | .binOp op t x y _=>.mk<|oQ P op t x y
 | .unOp op _ x=>.mk<|BH op x
 | .convert src dst x=>.mk<|Ao P src dst x
 | .makeInterface t x=>.mk<|Cj P t x
 | .makeFunc fn first captured=>.mk<|Ai fn first.toList captured.toList
 | .makeMap t r=>.mk<|Ap P t r
 | .makeSlice t l c=>.mk<|Af P t l c
 | .slice t x lo hi mx=>.mk<|sO P t x lo hi mx
 | .fieldAddr s x f=>.mk<|Ag P s x f
 | .field s x f=>.mk<|AQ P s x f
 | .indexAddr t x i=>.mk<|p6 P t x i
 | .index t x i=>.mk<|AR P t x i
 | .lookup t x i ok=>.mk<|wR P t x i ok
 | .mapUpdate t m k x=>.mk<|p8 P t m k x
 | .insert t m k x=>.mk<|p8 P t m k x
 | .typeAssert x _ asserted ok=>.mk<|CH P asserted ok x
 | .range t x=>.mk<|AT P t x
 | .entry x=>.mk<|AU x
 | .next x true=>.mk<|Cw x
 | .extract x i=>.mk<|Aq x i
 | .call ⟨.builtin b,args,argTypes⟩=>.mk<|og P b argTypes args.toList
 | .call ⟨.value f,args,_⟩=>.mk<|tj f args.toList
 | .call ⟨.invoke recv name,args,_⟩=>.mk<|Ny P recv name args.toList
 |_=>.mk VU
def qD.val{α:Type}(b:qD α):α:= @qD.rec α (fun _=>α) (fun a=>a) b
def GH(P:Program)(YG:aK)(t:Tr AV)(op:Op):M AV:=(du P op).val YG t
end
end Go.Rn
namespace Go.Rn
variable {α:Type}
noncomputable section
structure AF where
 fn:FuncId
 tmps:Tr AV
 nt:Nat
 todo:List Item
 defers:List Nat
 round:Option Nat
def je(nt:Nat)(t:Tr AV)(dst:Option Tmp)(v:AV):Option<|Tr AV:= @Option.rec Tmp (fun _=>Option<|Tr AV) (some t) (fun d=> @Bool.rec (fun _=>Option<|Tr AV) none (some<|t.put d<|some v)<|Nat.blt d nt) dst
def EX(ops:Array Oper)(t:Tr AV)(j:Nat):Option Bool:=
 match ops[j]? with
 |none=>none
 |some o=>match o.dst with
  |none=>none
  |some d=>match t.get d with
   |some (.bool b)=>some b
   |_=>none
def p9(ops:Array Oper)(g:Nat×Bool)(t:Tr AV):Bool:=
 match EX ops t g.1 with
 |some b=>b == g.2
 |none=>false
def sP(ops:Array Oper)(t:Tr AV)(j:Nat):Bool:=
 match ops[j]? with
 |none=>true
 |some o=>match o.dst with
  |none=>true
  |some d=>(t.get d).isSome
abbrev OS:=aK->Nat->Tr AV->M (Tr AV)
def rL(f:qD gD)(dst:Option Tmp):OS:=fun YG nt t=>(f.val YG t).bind fun v=>lift<|je nt t dst v
def tq(ops:Array Oper)(g:Nat×Bool)(f:qD gD)(dst:Option Tmp):OS:=fun YG nt t=>aG (sP ops t g.1) <| @Bool.rec (fun _=>M<|Tr AV) (lift<|je nt t dst om) ((f.val YG t).bind fun v=>lift<|je nt t dst v)<|p9 ops g t
def Bd(P:Program)(ops:Array Oper)(o:Oper):qD OS:=
 match o.guard with
 |none=>.mk<|rL (du P o.op) o.dst
 |some g=>.mk<|tq ops g (du P o.op) o.dst
def gM(P:Program)(YG:aK)(nt:Nat)(ops:Array Oper)(o:Oper)(t:Tr AV):M<|Tr AV:=(Bd P ops o).val YG nt t
def jf(P:Program)(YG:aK)(nt:Nat)(ops:Array Oper)(l:List Oper):Tr AV->M (Tr AV):= @List.rec Oper (fun _=>Tr AV->M (Tr AV)) (fun t=>M.pure t) (fun o _ ih t=>(gM P YG nt ops o t).bind ih) l
structure Met where
 i:Nat
 rd:List Nat
 wr:List Nat
 lo:Nat
 hi:Nat
def uN(m:Nat)(l:List Nat):List Nat:= @List.rec Nat (fun _=>List Nat) [] (fun x _ ih=> @Bool.rec (fun _=>List Nat) ih (List.cons x ih) (Nat.ble m x |> not)) l
def below(m:Nat)(l:List Nat):List Nat:= @Bool.rec (fun _=>List Nat) (uN m l) []<|Nat.beq m 0
def alone(i:Nat)(m:M α):M<|α×Met:=fun s=>
 @AS.rec (fun _=>R<|α×Met) (fun h nx mark rd wr=>forced nx fun lo=>
  @R.rec α (fun _=>R<|α×Met) .bad (fun a s1=>
   @AS.rec (fun _=>R<|α×Met) (fun h1 pO _ gp nU=>forced pO fun hi=>.ok (a,⟨i,below lo gp,below lo nU,lo,hi⟩) ⟨h1,hi,mark,below mark gp++rd,below mark nU++wr⟩) s1)
   (m ⟨h,lo,lo,[],[]⟩)) s
def mW(P:Program)(YG:aK)(nt:Nat)(ops:Array Oper):List Oper->Nat->Tr AV->M (Tr AV×List Met)
 |[],_,t=>M.pure (t,[])
 |o::l,i,t=>(alone i<|gM P YG nt ops o t).bind fun x=>(mW P YG nt ops l (i+1) x.1).bind fun y=>M.pure (y.1,x.2::y.2)
def Bl(n:Nat):List Nat->Bool
 |[]=>false
 |x::l=>match Nat.beq x n with
  |true=>true
  |false=>Bl n l
def meets:List Nat->List Nat->Bool
 |[],_=>false
 |x::l,m=>match Bl x m with
  |true=>true
  |false=>meets l m
def yZ(lo hi:Nat):List Nat->Bool
 |[]=>false
 |x::l=>match Nat.ble lo x&&Nat.blt x hi with
  |true=>true
  |false=>yZ lo hi l
def sQ(x y:Met):Bool:= !(meets x.wr y.rd)&&(!(yZ x.lo x.hi y.rd))
def sR(x:Met):Bool:=match x.wr with
 |[]=>Nat.ble x.hi x.lo
 |_=>false
def sj(b:Array Nat)(x:Met):List Met->Bool
 |[]=>true
 |y::l=>match Nat.beq x.i y.i||(sQ x y|| !loose b x.i y.i) with
  |true=>sj b x l
  |false=>false
def qf(b:Array Nat)(all:List Met):List Met->Bool
 |[]=>true
 |x::l=>match sR x||sj b x all with
  |true=>qf b all l
  |false=>false
def p7(P:Program)(YG:aK)(nt:Nat)(ops:Array Oper)(t:Tr AV):M<|Tr AV:=(mW P YG nt ops ops.toList 0 t).bind fun x=>aG (qf (Region.before ops) x.2 x.2) <| M.pure x.1
inductive bq where
 |go (fr:AF)
 |leave (fr:AF) (jump:Option Code)
def getLoop(l:Nat):M ae:=(bt l).bind fun o=>match o with
 | .loop a b c d e f g h i=>M.pure<|.loop a b c d e f g h i
 |_=>fail
abbrev oy:=aK->FuncId->Tr AV->Nat->List Nat->Option Nat->List Item->M bq
def qq:oy:=fun _ fn t nt d r k=>M.pure<|.go ⟨fn,t,nt,k,d,r⟩
def nC(l:List Item):oy:=fun _ fn t nt d r k=>M.pure<|.go ⟨fn,t,nt,l++k,d,r⟩
def JC(c:Operand)(a b:Code):oy:=fun _ fn t nt d r k=>aB (aH t c) fun v=>aB (w9 v) fun v=>M.pure<|.go ⟨fn,t,nt,.code (@Bool.rec (fun _=>Code) b a v)::k,d,r⟩
def Df(id:Nat):oy:=fun _ fn t nt d r k=>match exitTo id k with
 |some k'=>M.pure<|.go ⟨fn,t,nt,k',d,r⟩
 |none=>M.pure<|.leave ⟨fn,t,nt,.code (.exit id)::k,d,r⟩<|some<|.exit id
def Dg(l:Nat):oy:=fun _ fn t nt d r k=>match gotoIn l k with
 |some k'=>M.pure<|.go ⟨fn,t,nt,k',d,r⟩
 |none=>M.pure<|.leave ⟨fn,t,nt,.code (.goto l)::k,d,r⟩<|some<|.goto l
def Ww:oy:=fun _ fn t nt d r k=>M.pure<|.leave ⟨fn,t,nt,.code .ret::k,d,r⟩<|some .ret
def Iy(P:Program)(ops:Array Oper):oy:=fun YG fn t nt d r k=>(jf P YG nt ops ops.toList t).bind fun t=>M.pure<|.go ⟨fn,t,nt,k,d,r⟩
def H6(P:Program)(ops:Array Oper):oy:=fun YG fn t nt d r k=>(p7 P YG nt ops t).bind fun t=>M.pure<|.go ⟨fn,t,nt,k,d,r⟩
def acP:LoopState->Bool
 | .busy=>false
 |_=>true
def lM(l:Nat):M<|Option Code:=(getLoop l).bind fun o=>match o with
 | .loop st bL fn t nt ps a b dd=>aG (acP st) <| (bJ l<|some<|.loop .exhausted bL fn t nt ps a b dd).bind fun _=>M.pure bL
 |_=>fail
def andThen(p:Option Code)(k:List Item):List Item:=
 match p with
 |none=>k
 |some c=>.code c::k
def uT(f:Operand)(params:List Tmp)(assign body:Code):oy:=fun YG fn t nt d r k=>
 match r with
 |none=>
  (gA .defs).bind fun df=>(gA<|.loop .ready none fn t nt params assign body df).bind fun l=>
  aB (aH t f) fun g=>(mV YG g [.yield l]).bind fun _=>(lM l).bind fun p=>
  M.pure (.go ⟨fn,t,nt,andThen p k,df::d,r⟩)
 |some l0=>(getLoop l0).bind fun o=>match o with
  | .loop _ _ _ _ _ _ _ _ df=>
   (gA<|.loop .ready none fn t nt params assign body df).bind fun l=>
   aB (aH t f) fun g=>(mV YG g [.yield l]).bind fun _=>(lM l).bind fun p=>
   M.pure (.go ⟨fn,t,nt,andThen p k,d,r⟩)
  |_=>fail
def yO:oy:=fun _ fn t nt d r k=>
 match r with
 |none=>fail
 |some l=>(getLoop l).bind fun o=>match o with
  | .loop .ready bL fn1 t1 nt1 ps a b df=>(bJ l<|some<|.loop .busy bL fn1 t1 nt1 ps a b df).bind fun _=>M.pure<|.go ⟨fn,t,nt,k,d,r⟩
  |_=>fail
def OT:oy:=fun _ _ _ _ _ _ _=>fail
def VV(P:Program)(c:Code):qD oy:=
 match c with
 | .skip=>.mk qq
 | .label _=>.mk qq
 | .seq a b=>.mk<|nC [.code a,.code b]
 | .cond c a b=>.mk<|JC c a b
 | .block id b=>.mk<|nC [.code b,.inBlock id]
 | .loop b=>.mk<|nC [.code b,.inLoop b]
 | .scope b=>.mk<|nC [.code b,.inScope b]
 | .exit id=>.mk<|Df id
 | .goto l=>.mk<|Dg l
 | .ret=>.mk Ww
 | .region _ ops false=>.mk<|Iy P ops
 | .region _ ops true=>.mk<|H6 P ops
 | .rangeFunc f params a b=>.mk<|uT f params.toList a b
 | .refuse _=>.mk OT
def vh(P:Program)(it:Item):qD oy:=
 match it with
 | .code c=>VV P c
 | .inBlock _=>.mk qq
 | .inScope _=>.mk qq
 | .inLoop b=>.mk<|nC [.code b,.inLoop b]
 | .beginRound=>.mk yO
 |_=>.mk OT
def ja(P:Program)(YG:aK)(fr:AF):M bq:= @AF.rec (fun _=>M bq) (fun fn t nt todo d r=> @List.rec Item (fun _=>M bq) (M.pure<|.leave ⟨fn,t,nt,[],d,r⟩ none) (fun it k _=>(vh P it).val YG fn t nt d r k) todo) fr
def nE(P:Program)(YG:aK)(n:Nat):AF->M bq:= @Nat.rec (fun _=>AF->M bq) (ja P YG) (fun _ ih fr=>(ih fr).bind fun x=> @bq.rec (fun _=>M bq) ih (fun fr j=>M.pure<|.leave fr j) x) n
def qg(P:Program)(YG:aK)(n:Nat):Nat->AF->M bq:= @Nat.rec (fun _=>Nat->AF->M bq) (fun _ _=>fail) (fun _ ih k fr=>(nE P YG k fr).bind fun x=> @bq.rec (fun _=>M bq) (fun fr=>ih (Nat.succ k) fr) (fun fr j=>M.pure<|.leave fr j) x) n
def Ar(P:Program)(t:Tr AV):ResultVar->M AV
  | .tmp i=>lift<|t.get i
  | .cell a ty=>do
    let a ←lift (match t.get a with
      |some x=>addrOf x
      |none=>none)
    loadVar P ty a.1 a.2
def sr(P:Program)(t:Tr AV):List ResultVar->M (List AV)
  |[]=>pure []
  | r::l=>do
    let v ←Ar P t r
    let vs ←sr P t l
    pure (v::vs)
def qT:List Nat->M Unit
  |[]=>pure ()
  | d ::l=>do
    match ←bt d with
    | .defs=>do
      bJ d none
      qT l
    |_=>fail
def dt(l:List AV):Tr AV:=Tr.fill l 0 .nil
def jw:List Tmp->List AV->Tr AV->Tr AV
 |p::ps,v::vs,t=>jw ps vs<|t.put p<|some v
 |_,_,t=>t
def As(fr:AF):Option<|Operand×Oper×Array Oper×List Oper×List Item:=
 match fr.todo with
 | .code (.region _ ops false)::k=>match ops.toList with
  |o::rest=>match o.guard,o.op with
   |none,.next it false=>some (it,o,ops,rest,k)
   |_,_=>none
  |[]=>none
 |_=>none
def xw:List α->List (α×List α)
 |[]=>[]
 |x::l=>(x,l)::(xw l).map fun(y,r)=>(y,x::r)
def mapOf(exact:Bool)(es:List<|AV×AV):ae:=
 match exact with
 |true=>.map es es.length
 |false=>.lq es
def ny(P:Program)(YG:aK)(fr:AF)(n:Nat)(ob:ae)(o:Oper)(ops:Array Oper)(rest:List Oper)(k:List Item)(v:AV):M AF:=do
 bJ n (some ob)
 let t ←lift (je fr.nt fr.tmps o.dst v);let t ←jf P YG fr.nt ops rest t
 pure {fr with tmps:=t,todo:=k}
def nu(P:Program)(YG:aK)(fr:AF)(n m:Nat)(es:List<|AV×AV)(exact:Bool)(o:Oper)(ops:Array Oper)(rest:List Oper)(k:List Item):M AF:=do
 bJ n none
 bJ m (some<|mapOf exact es)
 let t ←lift (je fr.nt fr.tmps o.dst<|.tuple [.bool false]);let t ←jf P YG fr.nt ops rest t
 pure {fr with tmps:=t,todo:=k}
def qW(fr:AF)(it:Operand):M<|Nat×ae:=do
  match ←lift (aH fr.tmps it) with
  | .ptr (some (n,0))=>do
    let o ←bt n
    pure (n,o)
  |_=>fail
def finish(P:Program)(rs:List ResultVar)(fr:AF)(j:Option Code):M AV:=do
 oP (match j with|none|some .ret=>true|_=>false)
 qT fr.defers
 let vs ←sr P fr.tmps rs
 match vs with
 |[v]=>pure v
 |_=>pure<|.tuple vs
def depth:Nat:=24
def nz(P:Program)(YG:aK):Nat->AF->M bq
 |0,_=>fail
 |f+1,fr=>match As fr with
  |some (it,o,ops,rest,k)=>(qW fr it).bind fun x=>match x with
   |(n,.iter m es ex [] _)=>(nu P YG fr n m es ex o ops rest k).bind fun fr=>nz P YG f fr
   |(n,.iter m es ex [y] _)=>(ny P YG fr n (.iter m es ex []<|some y) o ops rest k<|.tuple [.bool true,y.1,y.2]).bind fun fr=>nz P YG f fr
   |_=>fail
  |none=>(ja P YG fr).bind fun x=>match x with
   | .go fr=>nz P YG f fr
   | .leave fr j=>M.pure<|.leave fr j
def zm(P:Program)(YG:aK)(w:Nat)(fr:AF):M bq:=match Nat.beq w 1 with
 |true=>nz P YG 100000 fr
 |false=>qg P YG depth 2 fr
def Dh(P:Program)(w f ntmps:Nat)(rs:List ResultVar)(body:Code)(YG:aK)(args:List AV):M AV:=
 aG (Nat.ble (max ntmps args.length) top) <|
 (zm P YG w ⟨f,dt args,max ntmps args.length,[.code body],[],none⟩).bind fun st=> @bq.rec (fun _=>M AV) (fun _=>fail) (fun fr j=>finish P rs fr j) st
def GI(P:Program)(j0:FuncId->Nat)(f:FuncId):qD<|aK->List AV->M AV:=
 match P.funcs[f]? with
 |none=>.mk fun _ _=>fail
 |some fn=>match fn.body with
  |none=>.mk fun _ _=>fail
  |some body=>match fn.name == "runtime.NumGoroutine" with
   |true=>.mk fun _ _=>fail
   |false=>.mk<|Dh P (j0 f) f fn.ntmps fn.results.toList body
def endRound(l:Nat)(j:Option Code):M AV:=(getLoop l).bind fun o=>match o with
 | .loop _ _ fn t nt ps a b d=>(bJ l<|some<|.loop (match j with|none=>.ready|some _=>.done) j fn t nt ps a b d).bind fun _=>M.pure<|.bool j.isNone
 |_=>fail
def Au(P:Program)(YG:aK)(l:Nat)(args:List AV):M AV:=(getLoop l).bind fun o=>match o with
 | .loop _ _ fn t nt ps a b _=>
  aG (and (Nat.beq args.length ps.length)<|ps.all fun p=>Nat.blt p nt) <|
  (qg P YG depth 2 ⟨fn,jw ps args t,nt,[.code a,.beginRound,.code b],[],some l⟩).bind fun st=> @bq.rec (fun _=>M AV) (fun _=>fail) (fun _ j=>endRound l j) st
 |_=>fail
def zn(P:Program)(j0:FuncId->Nat)(n:Nat):aK:= @Nat.rec (fun _=>aK) (fun _ _=>fail) (fun _ ih t args=> @GG.rec (fun _=>M AV) (fun f=>(GI P j0 f).val ih args) (fun l=>Au P ih l args) (fun _ _ _=>fail) t) n
end
end Go.Rn
namespace Go.Rn
variable {s s1:AS} {α β:Type} {n:Nat} {f:α->M β} {o:ae} {b:β} {a:α}
structure OU (A:Nat->Prop) (m0:Nat) (s t:AS):Prop where
 nx:s.nx=t.nx
 mark:s.mark=t.mark
 low:m0<=s.mark
 is:∀k,k<s.nx->(A k\/m0<=k)->s.h.get k=t.h.get k
structure bB (s:AS):Prop where
 mark:s.mark<=s.nx
 nx:s.nx<=top
structure Kw (s s1:AS) (dr dw:List Nat):Prop where
 rd:s1.rd=dr++s.rd
 wr:s1.wr=dw++s.wr
 nx:s.nx<=s1.nx
 top:s1.nx<=top
 mark:s1.mark=s.mark
 same:∀k,k<s.mark->k ∉ dw->s1.h.get k=s.h.get k
 sub:∀k∈dw,k∈dr
 rM:∀k,s1.nx<=k->k<Rn.top->s1.h.get k=s.h.get k
theorem Kw.cm{dr dw:List Nat}(f:bB s)(d:Kw s s1 dr dw):bB s1:=⟨by rw[d.mark];exact Nat.le_trans f.mark d.nx,d.top⟩
structure Wx (A:Nat->Prop) (m0:Nat) (s1 t t1:AS) (dr dw:List Nat):Prop where
 agree:OU A m0 s1 t1
 rd:t1.rd=dr++t.rd
 wr:t1.wr=dw++t.wr
 same:∀k,k<m0->k ∉ dw->t1.h.get k=t.h.get k
 rM:∀k,s1.nx<=k->k<Rn.top->t1.h.get k=t.h.get k
def YF(m:M α):Prop:=∀s v s1,bB s->m s= .ok v s1->∃dr dw,Kw s s1 dr dw/\∀A m0 t,OU A m0 s t->(∀k∈dr,k<m0->A k)->∃t1,m t= .ok v t1/\Wx A m0 s1 t t1 dr dw
theorem M.bK{m:M α}(h:m s= .ok a s1):(m.bind f) s=f a s1:=by unfold M.bind;rw[h]
theorem M.abv{m:M α}(h:m s= .bad):(m.bind f) s= .bad:=by unfold M.bind;rw[h]
theorem M.aN{m:M α}{s2:AS}(h:(m.bind f) s= .ok b s2):∃a s1,m s= .ok a s1/\f a s1= .ok b s2:=by
 cases e:m s with
 |bad=>rw[M.abv e] at h;cases h
 |ok a s1=>rw[M.bK e] at h;exact⟨a,s1,rfl,h⟩
theorem bind_eq(m:M α)(f:α->M β):(m >>= f)=m.bind f:=rfl
theorem acQ(a:α):(pure a:M α)=M.pure a:=rfl
theorem bQ(a:α)(f:α->M β):aB (some a) f=f a:=rfl
theorem dq(m:M β):aG true m=m:=rfl
theorem bu{o:Option α}(h:aB o f s= .ok b s1):∃a,o=some a/\f a s= .ok b s1:=by
 cases o with
 |none=>cases h
 |some a=>exact⟨a,rfl,h⟩
theorem cV{c:Bool}{m:M β}(h:aG c m s= .ok b s1):c=true/\m s= .ok b s1:=by
 cases c with
 |false=>cases h
 |true=>exact⟨rfl,h⟩
theorem bA{b:α}(h:M.pure a s= .ok b s1):b=a/\s1=s:=by cases h;exact⟨rfl,rfl⟩
theorem gT{o:Option α}{b:α}(h:lift o s= .ok b s1):o=some b/\s1=s:=by
 cases o with
 |none=>cases h
 |some a=>cases h;exact⟨rfl,rfl⟩
theorem YF.pure(a:α):YF<|M.pure a:=by intro s v s1 fi h;obtain⟨rfl,rfl⟩:=bA h;exact⟨[],[],⟨rfl,rfl,Nat.le_refl _,fi.nx,rfl,fun _ _ _=>rfl,fun _ h=>h,fun _ _ _=>rfl⟩,fun A m0 t ag _=>⟨t,rfl,ag,rfl,rfl,fun _ _ _=>rfl,fun _ _ _=>rfl⟩⟩
theorem YF.fail{α:Type}:YF (fail:M α):=by intro s v s1 _ h;cases h
theorem YF.aB{α β:Type}{o:Option α}{f:α->M β}(h:∀a,o=some a->YF (f a)):YF<|aB o f:=by
 cases o with
 |none=>exact YF.fail
 |some a=>exact h a rfl
theorem YF.aG{β:Type}{c:Bool}{m:M β}(h:c=true->YF m):YF<|aG c m:=by
 cases c with
 |false=>exact YF.fail
 |true=>exact h rfl
theorem YF.lift{α:Type}(o:Option α):YF<|lift o:=by
 cases o with
 |none=>exact YF.fail
 |some a=>exact YF.pure a
theorem YF.oP(b:Bool):YF<|oP b:=by
 cases b with
 |false=>exact YF.fail
 |true=>exact YF.pure ()
theorem YF.bind{m:M α}(hm:YF m)(hf:∀a,YF<|f a):YF<|m.bind f:=by
 intro s v s2 fi h;obtain⟨a,s1,h1,h2⟩:=M.aN h;obtain⟨dr,dw,d,x⟩:=hm s a s1 fi h1;obtain⟨dr',P5,d',x'⟩:=hf a s1 v s2 (d.cm fi) h2;refine⟨dr'++dr,P5++dw,⟨by rw[d'.rd,d.rd,List.append_assoc],by rw[d'.wr,d.wr,List.append_assoc],Nat.le_trans d.nx d'.nx,d'.top,d'.mark.trans d.mark,?_,?_,?_⟩,?_⟩
 ·intro k hk hn;have BI:k ∉ P5:=fun e=>hn<|List.mem_append.2<|.inl e;have ua:k ∉ dw:=fun e=>hn<|List.mem_append.2<|.inr e;exact(d'.same k (by rw[d.mark];exact hk) BI).trans<|d.same k hk ua
 ·intro k hk;rcases List.mem_append.1 hk with e|e
  ·exact List.mem_append.2<|.inl<|d'.sub k e
  ·exact List.mem_append.2<|.inr<|d.sub k e
 ·intro k hk ht;exact(d'.rM k hk ht).trans<|d.rM k (Nat.le_trans d'.nx hk) ht
 ·intro A m0 t ag hA;obtain⟨t1,e1,al⟩:=x A m0 t ag fun k hk bZ=>hA k (List.mem_append.2<|.inr hk) bZ;obtain⟨t2,e2,GJ⟩:=x' A m0 t1 al.agree fun k hk bZ=>hA k (List.mem_append.2<|.inl hk) bZ;refine⟨t2,by rw[M.bK e1];exact e2,GJ.agree,by rw[GJ.rd,al.rd,List.append_assoc],by rw[GJ.wr,al.wr,List.append_assoc],?_,?_⟩
  ·intro k hk hn;have BI:k ∉ P5:=fun e=>hn<|List.mem_append.2<|.inl e;have ua:k ∉ dw:=fun e=>hn<|List.mem_append.2<|.inr e;exact(GJ.same k hk BI).trans<|al.same k hk ua
  ·intro k hk ht;exact(GJ.rM k hk ht).trans<|al.rM k (Nat.le_trans d'.nx hk) ht
theorem blt_eq(n m:Nat):(Nat.blt n m=true)=(n<m):=by show(Nat.ble (n+1) m=true)=_;rw[Nat.ble_eq];rfl
theorem yI(a b:α)(n m:Nat): @Bool.rec (fun _=>α) a b (Nat.blt n m)=if n<m then b else a:=by
 rw[MO];by_cases h:n<m
 ·rw[if_pos h,if_pos (by rw[blt_eq];exact h)]
 ·rw[if_neg h,if_neg (by rw[blt_eq];exact h)]
theorem Nz(h:bt n s= .ok o s1):
 n<s.nx/\s.h.get n=some o/\s1=if n<s.mark then{s with rd:=n::s.rd} else s:=by
 obtain⟨hh,nx,mark,rd,wr⟩:=s;cases hb:Nat.blt n nx with
 |false=>
  have:bt n ⟨hh,nx,mark,rd,wr⟩= .bad:=by show @Bool.rec (fun _=>R ae) .bad _ (Nat.blt n nx)=_;rw[hb]
  rw[this] at h;cases h
 |true=>
  cases hg:hh.get n with
  |none=>
   have:bt n ⟨hh,nx,mark,rd,wr⟩= .bad:=by show @Bool.rec (fun _=>R ae) .bad (@Option.rec ae (fun _=>R ae) .bad _<|hh.get n) (Nat.blt n nx)=_;rw[hb,hg]
   rw[this] at h;cases h
  |some o'=>
   have:bt n ⟨hh,nx,mark,rd,wr⟩= @Bool.rec (fun _=>R ae) (.ok o' ⟨hh,nx,mark,rd,wr⟩) (.ok o' ⟨hh,nx,mark,n::rd,wr⟩) (Nat.blt n mark):=by show @Bool.rec (fun _=>R ae) .bad (@Option.rec ae (fun _=>R ae) .bad _<|hh.get n) (Nat.blt n nx)=_;rw[hb,hg]
   rw[this] at h;have bZ:n<nx:=by rw[←blt_eq];exact hb
   cases hm:Nat.blt n mark with
   |false=>
    rw[hm] at h;cases h;have:¬n<mark:=by rw[←blt_eq,hm];simp
    exact⟨bZ,by first|exact hg|rfl,by simp[this]⟩
   |true=>
    rw[hm] at h;cases h;have:n<mark:=by rw[←blt_eq];exact hm
    exact⟨bZ,by first|exact hg|rfl,by simp[this]⟩
theorem Ve(h1:n<s.nx)(h2:s.h.get n=some o):
 bt n s= .ok o (if n<s.mark then{s with rd:=n::s.rd} else s):=by
 obtain⟨hh,nx,mark,rd,wr⟩:=s;have hb:Nat.blt n nx=true:=by rw[blt_eq];exact h1
 have hg:hh.get n=some o:=h2;show @Bool.rec (fun _=>R ae) .bad (@Option.rec ae (fun _=>R ae) .bad (fun o=> @Bool.rec (fun _=>R ae) (.ok o ⟨hh,nx,mark,rd,wr⟩) (.ok o ⟨hh,nx,mark,n::rd,wr⟩)<|Nat.blt n mark)<|hh.get n) (Nat.blt n nx)=_;rw[hb,hg];show @Bool.rec (fun _=>R ae) _ _ (Nat.blt n mark)=_;rw[yI];by_cases e:n<mark<;>simp[e]
theorem Uh{o:Option ae}{u:Unit}(h:bJ n o s= .ok u s1):
 n<s.nx/\n<top/\(∃p,s.h.get n=some p/\p.dh=false)/\s1=if n<s.mark then{s with h:=s.h.put n o,rd:=n::s.rd,wr:=n::s.wr} else{s with h:=s.h.put n o}:=by
 obtain⟨hh,nx,mark,rd,wr⟩:=s;have e:bJ n o ⟨hh,nx,mark,rd,wr⟩= @Bool.rec (fun _=>R Unit) .bad
  (@Option.rec ae (fun _=>R Unit) .bad
   (fun p=> @Bool.rec (fun _=>R Unit)
    (@Bool.rec (fun _=>R Unit) (.ok () ⟨hh.put n o,nx,mark,rd,wr⟩) (.ok () ⟨hh.put n o,nx,mark,n::rd,n::wr⟩)<|Nat.blt n mark)
    .bad p.dh)
   (hh.get n))
  (and (Nat.blt n nx)<|Nat.blt n top):=rfl
 rw[e] at h;cases hb:and (Nat.blt n nx) (Nat.blt n top) with
 |false=>rw[hb] at h;cases h
 |true=>
  rw[hb] at h;have fN:=Bool.and_eq_true_iff.1 hb;rw[blt_eq,blt_eq] at fN;cases hg:hh.get n with
  |none=>rw[hg] at h;cases h
  |some p=>
   rw[hg] at h;cases hr:p.dh with
   |true=>
    have h': @Bool.rec (fun _=>R Unit)
     (@Bool.rec (fun _=>R Unit) (.ok () ⟨hh.put n o,nx,mark,rd,wr⟩) (.ok () ⟨hh.put n o,nx,mark,n::rd,n::wr⟩)<|Nat.blt n mark)
     .bad p.dh= .ok u s1:=h
    rw[hr] at h';cases h'
   |false=>
    have h': @Bool.rec (fun _=>R Unit)
     (@Bool.rec (fun _=>R Unit) (.ok () ⟨hh.put n o,nx,mark,rd,wr⟩) (.ok () ⟨hh.put n o,nx,mark,n::rd,n::wr⟩)<|Nat.blt n mark)
     .bad p.dh= .ok u s1:=h
    rw[hr] at h';refine⟨fN.1,fN.2,⟨p,by first|exact hg|rfl,hr⟩,?_⟩;have ud: @Bool.rec (fun _=>R Unit) (.ok () ⟨hh.put n o,nx,mark,rd,wr⟩) (.ok () ⟨hh.put n o,nx,mark,n::rd,n::wr⟩) (Nat.blt n mark)= .ok u s1:=h';rw[yI] at ud;by_cases e:n<mark
    ·rw[if_pos e] at ud;injection ud with _ h3;simp[e, ←h3]
    ·rw[if_neg e] at ud;injection ud with _ h3;simp[e, ←h3]
theorem N9{o:Option ae}{p:ae}(h1:n<s.nx)(h2:n<top)(h3:s.h.get n=some p)(h4:p.dh=false):
 bJ n o s= .ok () (if n<s.mark then{s with h:=s.h.put n o,rd:=n::s.rd,wr:=n::s.wr} else{s with h:=s.h.put n o}):=by
 obtain⟨hh,nx,mark,rd,wr⟩:=s;have e:bJ n o ⟨hh,nx,mark,rd,wr⟩= @Bool.rec (fun _=>R Unit) .bad
  (@Option.rec ae (fun _=>R Unit) .bad
   (fun p=> @Bool.rec (fun _=>R Unit)
    (@Bool.rec (fun _=>R Unit) (.ok () ⟨hh.put n o,nx,mark,rd,wr⟩) (.ok () ⟨hh.put n o,nx,mark,n::rd,n::wr⟩)<|Nat.blt n mark)
    .bad p.dh)
   (hh.get n))
  (and (Nat.blt n nx)<|Nat.blt n top):=rfl
 have hb:and (Nat.blt n nx) (Nat.blt n top)=true:=Bool.and_eq_true_iff.2 ⟨by rw[blt_eq];exact h1,by rw[blt_eq];exact h2⟩;have hg:hh.get n=some p:=h3;rw[e,hb,hg];show @Bool.rec (fun _=>R Unit) (@Bool.rec (fun _=>R Unit) (.ok () ⟨hh.put n o,nx,mark,rd,wr⟩) (.ok () ⟨hh.put n o,nx,mark,n::rd,n::wr⟩)<|Nat.blt n mark) .bad p.dh=_;rw[h4];show @Bool.rec (fun _=>R Unit) (.ok () ⟨hh.put n o,nx,mark,rd,wr⟩) (.ok () ⟨hh.put n o,nx,mark,n::rd,n::wr⟩) (Nat.blt n mark)=_;rw[yI];by_cases e:n<mark<;>simp[e]
theorem uJ(h:gA o s= .ok n s1):s.nx<top/\n=s.nx/\s1={s with h:=s.h.put s.nx<|some o,nx:=s.nx+1}:=by
 obtain⟨hh,nx,mark,rd,wr⟩:=s;have e:gA o ⟨hh,nx,mark,rd,wr⟩= @Bool.rec (fun _=>R Nat) .bad (forced nx fun m=>.ok m ⟨hh.put m<|some o,m+1,mark,rd,wr⟩) (Nat.blt nx top):=rfl;rw[e,yB] at h;cases hb:Nat.blt nx top with
 |false=>rw[hb] at h;cases h
 |true=>rw[hb] at h;cases h;exact⟨by rw[←blt_eq];exact hb,rfl,rfl⟩
theorem Ui(h:s.nx<top):gA o s= .ok s.nx {s with h:=s.h.put s.nx<|some o,nx:=s.nx+1}:=by
 obtain⟨hh,nx,mark,rd,wr⟩:=s;have e:gA o ⟨hh,nx,mark,rd,wr⟩= @Bool.rec (fun _=>R Nat) .bad (forced nx fun m=>.ok m ⟨hh.put m<|some o,m+1,mark,rd,wr⟩) (Nat.blt nx top):=rfl;have hb:Nat.blt nx top=true:=by rw[blt_eq];exact h
 rw[e,yB,hb]
theorem YF.bt(n:Nat):YF<|bt n:=by
 intro s v s1 fi h;obtain⟨h1,h2,rfl⟩:=Nz h;by_cases e:n<s.mark
 ·rw[if_pos e];refine⟨[n],[],⟨rfl,rfl,Nat.le_refl _,fi.nx,rfl,fun _ _ _=>rfl,fun _ h=>(by cases h),fun _ _ _=>rfl⟩,fun A m0 t ag hA=>?_⟩;have hq:A n\/m0<=n:=by
   by_cases q:n<m0
   ·exact .inl<|hA n jF q
   ·exact .inr aj
  have hg:=ag.is n h1 hq;have hr:=Ve (o:=v) (s:=t) (n:=n) DZ D0;rw[←ag.mark,if_pos e] at hr;exact⟨_,hr,⟨ag.nx,by first|exact ag.mark|rfl,ag.low,ag.is⟩,rfl,rfl,fun _ _ _=>rfl,fun _ _ _=>rfl⟩
 ·rw[if_neg e];refine⟨[],[],⟨rfl,rfl,Nat.le_refl _,fi.nx,rfl,fun _ _ _=>rfl,fun _ h=>(by cases h),fun _ _ _=>rfl⟩,fun A m0 t ag hA=>?_⟩;have hg:=ag.is n h1<|.inr<|Nat.le_trans ag.low aj;have hr:=Ve (o:=v) (s:=t) (n:=n) DZ D0;rw[←ag.mark,if_neg e] at hr;exact⟨_,hr,ag,rfl,rfl,fun _ _ _=>rfl,fun _ _ _=>rfl⟩
theorem YF.bJ(n:Nat)(o:Option ae):YF<|bJ n o:=by
 intro s v s1 fi h;obtain⟨h1,ht,⟨p,h2,h3⟩,rfl⟩:=Uh h;by_cases e:n<s.mark
 ·rw[if_pos e];refine⟨[n],[n],⟨rfl,rfl,Nat.le_refl _,fi.nx,rfl,fun k hk hn=>?_,fun _ h=>h,fun k hk gq=>?_⟩,fun A m0 t ag hA=>?_⟩
  ·show(s.h.put n o).get k=_;rw[Tr.da _ _ _ _ ht (by have:=fi.mark;have:=fi.nx;omega),if_neg<|by simpa using hn]
  ·show(s.h.put n o).get k=_;have:s.nx<=k:=hk;rw[Tr.da _ _ _ _ ht gq,if_neg aj]
  ·have hq:A n\/m0<=n:=by
    by_cases q:n<m0
    ·exact .inl<|hA n jF q
    ·exact .inr aj
   have hg:=ag.is n h1 hq;have hr:=N9 (o:=o) (s:=t) (n:=n) (p:=p) DZ ht D0 h3;rw[←ag.mark,if_pos e] at hr;refine⟨_,hr,⟨ag.nx,by first|exact ag.mark|rfl,ag.low,fun k hk hq=>?_⟩,rfl,rfl,fun k hk hn=>?_,fun k hk gq=>?_⟩
   ·show(s.h.put n o).get k=(t.h.put n o).get k;have zG:k<s.nx:=hk;have:=fi.nx;rw[Tr.da _ _ _ _ ht aj,Tr.da _ _ _ _ ht aj];by_cases q:k=n
    ·simp[q]
    ·rw[if_neg q,if_neg q];exact ag.is k hk hq
   ·show(t.h.put n o).get k=_;have:=fi.mark;have:=fi.nx;have:=ag.low;rw[Tr.da _ _ _ _ ht aj,if_neg<|by simpa using hn]
   ·show(t.h.put n o).get k=_;have:s.nx<=k:=hk;rw[Tr.da _ _ _ _ ht gq,if_neg aj]
 ·rw[if_neg e];refine⟨[],[],⟨rfl,rfl,Nat.le_refl _,fi.nx,rfl,fun k hk hn=>?_,fun _ h=>h,fun k hk gq=>?_⟩,fun A m0 t ag hA=>?_⟩
  ·show(s.h.put n o).get k=_;have:=fi.mark;have:=fi.nx;rw[Tr.da _ _ _ _ ht aj,if_neg aj]
  ·show(s.h.put n o).get k=_;have:s.nx<=k:=hk;rw[Tr.da _ _ _ _ ht gq,if_neg aj]
  ·have hg:=ag.is n h1<|.inr<|Nat.le_trans ag.low aj;have hr:=N9 (o:=o) (s:=t) (n:=n) (p:=p) DZ ht D0 h3;rw[←ag.mark,if_neg e] at hr;refine⟨_,hr,⟨ag.nx,by first|exact ag.mark|rfl,ag.low,fun k hk hq=>?_⟩,rfl,rfl,fun k hk hn=>?_,fun k hk gq=>?_⟩
   ·show(s.h.put n o).get k=(t.h.put n o).get k;have zG:k<s.nx:=hk;have:=fi.nx;rw[Tr.da _ _ _ _ ht aj,Tr.da _ _ _ _ ht aj];by_cases q:k=n
    ·simp[q]
    ·rw[if_neg q,if_neg q];exact ag.is k hk hq
   ·show(t.h.put n o).get k=_;have:=fi.mark;have:=fi.nx;have:=ag.low;rw[Tr.da _ _ _ _ ht aj,if_neg aj]
   ·show(t.h.put n o).get k=_;have:s.nx<=k:=hk;rw[Tr.da _ _ _ _ ht gq,if_neg aj]
theorem YF.gA(o:ae):YF<|gA o:=by
 intro s v s1 fi h;obtain⟨ht,rfl,rfl⟩:=uJ h;refine⟨[],[],⟨rfl,rfl,Nat.le_succ _,ht,rfl,fun k hk hn=>?_,fun _ h=>h,fun k hk gq=>?_⟩,fun A m0 t ag hA=>?_⟩
 ·show(s.h.put s.nx<|some o).get k=_;have:=fi.mark;have:=fi.nx;rw[Tr.da _ _ _ _ ht aj,if_neg aj]
 ·show(s.h.put s.nx<|some o).get k=_;have:s.nx+1<=k:=hk;rw[Tr.da _ _ _ _ ht gq,if_neg aj]
 ·have hr:=Ui (o:=o) (s:=t) (by rw[←ag.nx];exact ht);rw[←ag.nx] at hr;refine⟨_,hr,⟨rfl,ag.mark,ag.low,fun k hk hq=>?_⟩,rfl,rfl,fun k hk hn=>?_,fun k hk gq=>?_⟩
  ·show(s.h.put s.nx<|some o).get k=(t.h.put s.nx<|some o).get k;have zG:k<s.nx+1:=hk;rw[Tr.da _ _ _ _ ht aj,Tr.da _ _ _ _ ht aj];by_cases q:k=s.nx
   ·simp[q]
   ·rw[if_neg q,if_neg q];exact ag.is k aj hq
  ·show(t.h.put s.nx<|some o).get k=_;have:=fi.mark;have:=fi.nx;have:=ag.low;rw[Tr.da _ _ _ _ ht aj,if_neg aj]
  ·show(t.h.put s.nx<|some o).get k=_;have:s.nx+1<=k:=hk;rw[Tr.da _ _ _ _ ht gq,if_neg aj]
end Go.Rn
namespace Go.Rn
theorem YF.iY(n off k:Nat):YF<|iY n off k:=by
 cases k with
 |zero=>exact YF.pure _
 |succ k=>
  unfold Rn.iY
  repeat' (first
  |exact YF.pure _|exact YF.fail|exact YF.lift _|exact YF.bt _
  |refine YF.aB (fun _ _=>?_)|refine YF.aG (fun _=>?_)|refine YF.bind ?_ (fun _=>?_)
  |split)
theorem YF.p0(n off:Nat)(l:List AV):YF<|p0 n off l:=by
 unfold Rn.p0
 repeat' (first
  |exact YF.pure _|exact YF.fail|exact YF.bt _|exact YF.bJ _ _
  |exact YF.fail
  |refine YF.aB (fun _ _=>?_)|refine YF.aG (fun _=>?_)|refine YF.bind ?_ (fun _=>?_)
  |split)
theorem YF.newRow(l:List AV):YF<|newRow l:=by
 unfold Rn.newRow
 repeat' (first
  |exact YF.pure _|exact YF.fail|exact YF.gA _
  |exact YF.fail
  |refine YF.aB (fun _ _=>?_)|refine YF.aG (fun _=>?_)|refine YF.bind ?_ (fun _=>?_)
  |split)
theorem YF.loadVar(P:Program)(t:TypeId)(n off:Nat):YF<|loadVar P t n off:=by
 unfold Rn.loadVar
 repeat' (first
  |exact YF.pure _|exact YF.fail|exact YF.lift _
  |exact YF.fail|exact YF.iY _ _ _
  |refine YF.aB (fun _ _=>?_)|refine YF.aG (fun _=>?_)|refine YF.bind ?_ (fun _=>?_)
  |split)
theorem YF.wQ(P:Program)(t:TypeId)(n off:Nat):YF<|wQ P t n off:=by
 unfold Rn.wQ
 repeat' (first
  |exact YF.pure _|exact YF.fail|exact YF.lift _|exact YF.bt _
  |exact YF.fail
  |refine YF.aB (fun _ _=>?_)|refine YF.aG (fun _=>?_)|refine YF.bind ?_ (fun _=>?_)
  |split)
theorem YF.uS(P:Program)(t:TypeId){YG:aK}(bG:∀t a,YF<|YG t a)(n o:Nat):YF<|uS P t YG n o:=by
 unfold Rn.uS
 repeat' (first
  |exact YF.pure _|exact YF.fail|exact YF.lift _
  |exact bG _ _
  |refine YF.aB (fun _ _=>?_)|refine YF.aG (fun _=>?_)|refine YF.bind ?_ (fun _=>?_)
  |split)
theorem YF.loadAt(P:Program)(t:TypeId){YG:aK}(bG:∀t a,YF<|YG t a)(a:AV):YF<|loadAt P t YG a:=by
 unfold Rn.loadAt
 repeat' (first
  |exact YF.pure _|exact YF.fail
  |exact bG _ _|exact YF.loadVar _ _ _ _|exact YF.wQ _ _ _ _|exact YF.uS _ _ bG _ _
  |refine YF.aB (fun _ _=>?_)|refine YF.aG (fun _=>?_)|refine YF.bind ?_ (fun _=>?_)
  |split)
theorem YF.storeVar(P:Program)(t:TypeId)(n off:Nat)(v:AV):YF<|storeVar P t n off v:=by
 unfold Rn.storeVar
 repeat' (first
  |exact YF.pure _|exact YF.fail
  |exact YF.fail|exact YF.p0 _ _ _
  |refine YF.aB (fun _ _=>?_)|refine YF.aG (fun _=>?_)|refine YF.bind ?_ (fun _=>?_)
  |split)
theorem YF.buildSlice(P:Program)(t:TypeId)(len:Nat)(parts:List<|Nat×AV):YF<|buildSlice P t len parts:=by
 unfold Rn.buildSlice
 repeat' (first
  |exact YF.pure _|exact YF.fail|exact YF.lift _|exact YF.oP _
  |exact YF.fail|exact YF.newRow _
  |refine YF.aB (fun _ _=>?_)|refine YF.aG (fun _=>?_)|refine YF.bind ?_ (fun _=>?_)
  |split)
theorem YF.makeSlice(P:Program)(t:TypeId)(len cap:AV):YF<|makeSlice P t len cap:=by
 unfold Rn.makeSlice
 repeat' (first
  |exact YF.pure _|exact YF.fail|exact YF.gA _
  |exact YF.fail
  |refine YF.aB (fun _ _=>?_)|refine YF.aG (fun _=>?_)|refine YF.bind ?_ (fun _=>?_)
  |split)
theorem YF.firstCells(size n:Nat)(v:AV):YF<|firstCells size n v:=by
 unfold Rn.firstCells
 repeat' (first
  |exact YF.pure _|exact YF.fail
  |exact YF.fail|exact YF.iY _ _ _
  |refine YF.aB (fun _ _=>?_)|refine YF.aG (fun _=>?_)|refine YF.bind ?_ (fun _=>?_)
  |split)
theorem YF.grown(a b c:Nat)(l m:List AV):YF<|grown a b c l m:=by
 unfold Rn.grown
 repeat' (first
  |exact YF.pure _|exact YF.fail
  |exact YF.fail|exact YF.newRow _
  |refine YF.aB (fun _ _=>?_)|refine YF.aG (fun _=>?_)|refine YF.bind ?_ (fun _=>?_)
  |split)
theorem YF.wD(n off:Nat)(l:List AV):YF<|wD n off l:=by
 unfold Rn.wD
 repeat' (first
  |exact YF.pure _|exact YF.fail|exact YF.bt _|exact YF.bJ _ _
  |exact YF.fail
  |refine YF.aB (fun _ _=>?_)|refine YF.aG (fun _=>?_)|refine YF.bind ?_ (fun _=>?_)
  |split)
theorem YF.qR(size bytes:Nat)(base:Option<|Nat×Nat)(len:Nat)(cap:bW)(n:Nat)(new:List AV):YF<|qR size bytes base len cap n new:=by
 unfold Rn.qR
 repeat' (first
  |exact YF.pure _|exact YF.fail|exact YF.bt _|exact YF.bJ _ _
  |exact YF.fail|exact YF.iY _ _ _|exact YF.p0 _ _ _|exact YF.firstCells _ _ _|exact YF.grown _ _ _ _ _|exact YF.wD _ _ _
  |refine YF.aB (fun _ _=>?_)|refine YF.aG (fun _=>?_)|refine YF.bind ?_ (fun _=>?_)
  |split)
theorem YF.pn(P:Program)(ts:Array TypeId)(s x:AV):YF<|pn P ts s x:=by
 unfold Rn.pn
 repeat' (first
  |exact YF.pure _|exact YF.fail
  |exact YF.fail|exact YF.firstCells _ _ _|exact YF.qR _ _ _ _ _ _ _
  |refine YF.aB (fun _ _=>?_)|refine YF.aG (fun _=>?_)|refine YF.bind ?_ (fun _=>?_)
  |split)
theorem YF.yM(P:Program)(ts:Array TypeId)(s x:AV):YF<|yM P ts s x:=by
 unfold Rn.yM
 repeat' (first
  |exact YF.pure _|exact YF.fail
  |exact YF.fail|exact YF.p0 _ _ _|exact YF.firstCells _ _ _
  |refine YF.aB (fun _ _=>?_)|refine YF.aG (fun _=>?_)|refine YF.bind ?_ (fun _=>?_)
  |split)
theorem YF.yN(P:Program)(k:TypeId)(a x:AV):YF<|yN P k a x:=by
 unfold Rn.yN
 repeat' (first
  |exact YF.pure _|exact YF.fail|exact YF.bt _
  |exact YF.fail
  |refine YF.aB (fun _ _=>?_)|refine YF.aG (fun _=>?_)|refine YF.bind ?_ (fun _=>?_)
  |split)
theorem YF.De(r:Nat)(a b:AV)(l:List<|AV×AV)(c:Nat)(f:Option<|Nat×AV):YF<|De r a b l c f:=by
 unfold Rn.De
 repeat' (first
  |exact YF.pure _|exact YF.fail|exact YF.bJ _ _
  |exact YF.fail
  |refine YF.aB (fun _ _=>?_)|refine YF.aG (fun _=>?_)|refine YF.bind ?_ (fun _=>?_)
  |split)
theorem YF.An(r:Nat)(a b:AV)(l:List<|AV×AV)(f:Option<|Nat×AV):YF<|An r a b l f:=by
 unfold Rn.An
 repeat' (first
  |exact YF.pure _|exact YF.fail|exact YF.bJ _ _
  |exact YF.fail
  |refine YF.aB (fun _ _=>?_)|refine YF.aG (fun _=>?_)|refine YF.bind ?_ (fun _=>?_)
  |split)
theorem YF.yH(P:Program)(t:TypeId)(x k:AV)(ok:Bool):YF<|yH P t x k ok:=by
 unfold Rn.yH
 repeat' (first
  |exact YF.pure _|exact YF.fail
  |exact YF.fail|exact YF.yN _ _ _ _
  |refine YF.aB (fun _ _=>?_)|refine YF.aG (fun _=>?_)|refine YF.bind ?_ (fun _=>?_)
  |split)
theorem YF.xd(P:Program)(t:TypeId)(m k v:AV):YF<|xd P t m k v:=by
 unfold Rn.xd
 repeat' (first
  |exact YF.pure _|exact YF.fail|exact YF.bt _
  |exact YF.fail|exact YF.De _ _ _ _ _ _|exact YF.An _ _ _ _ _
  |refine YF.aB (fun _ _=>?_)|refine YF.aG (fun _=>?_)|refine YF.bind ?_ (fun _=>?_)
  |split)
theorem YF.zl(P:Program)(ts:Array TypeId)(x:AV):YF<|zl P ts x:=by
 unfold Rn.zl
 repeat' (first
  |exact YF.pure _|exact YF.fail|exact YF.lift _
  |exact YF.fail|exact YF.Vc _
  |refine YF.aB (fun _ _=>?_)|refine YF.aG (fun _=>?_)|refine YF.bind ?_ (fun _=>?_)
  |split)
theorem YF.yC(P:Program)(b:Builtin)(ts:Array TypeId)(l:List AV):YF<|yC P b ts l:=by
 unfold Rn.yC
 repeat' (first
  |exact YF.pure _|exact YF.fail|exact YF.lift _
  |exact YF.fail|exact YF.pn _ _ _ _|exact YF.yM _ _ _ _|exact YF.zl _ _ _|exact YF.Vd _ _ _
  |refine YF.aB (fun _ _=>?_)|refine YF.aG (fun _=>?_)|refine YF.bind ?_ (fun _=>?_)
  |split)
theorem YF.Az(P:Program)(a:TypeId)(x:AV):YF<|Az P a x:=by
 unfold Rn.Az
 repeat' (first
  |exact YF.pure _|exact YF.fail|exact YF.bt _|exact YF.bJ _ _|exact YF.gA _
  |exact YF.fail
  |refine YF.aB (fun _ _=>?_)|refine YF.aG (fun _=>?_)|refine YF.bind ?_ (fun _=>?_)
  |split)
theorem YF.CI(x:AV):YF<|CI x:=by
 unfold Rn.CI
 repeat' (first
  |exact YF.pure _|exact YF.fail|exact YF.bt _
  |exact YF.fail
  |refine YF.aB (fun _ _=>?_)|refine YF.aG (fun _=>?_)|refine YF.bind ?_ (fun _=>?_)
  |split)
theorem YF.su{YG:aK}(bG:∀t a,YF<|YG t a)(n o k:Nat):YF<|su YG n o k:=by
 unfold Rn.su
 repeat' (first
  |exact YF.pure _|exact YF.fail
  |exact bG _ _
  |refine YF.aB (fun _ _=>?_)|refine YF.aG (fun _=>?_)|refine YF.bind ?_ (fun _=>?_)
  |split)
theorem YF.mV{YG:aK}(bG:∀t a,YF<|YG t a)(f:AV)(l:List AV):YF<|mV YG f l:=by
 unfold Rn.mV
 repeat' (first
  |exact YF.pure _|exact YF.fail
  |exact bG _ _
  |refine YF.aB (fun _ _=>?_)|refine YF.aG (fun _=>?_)|refine YF.bind ?_ (fun _=>?_)
  |split)
theorem YF.GH(P:Program){YG:aK}(bG:∀t a,YF<|YG t a)(t:Tr AV)(op:Op):YF<|GH P YG t op:=by unfold Rn.GH Rn.du;split<;>simp only[qD.val]<;>(first|unfold Rn.vg|unfold Rn.Bc|unfold Rn.I2|unfold Rn.Bk|unfold Rn.AP|unfold Rn.Ae|unfold Rn.ti|unfold Rn.xe|unfold Rn.Ah|unfold Rn.oQ|unfold Rn.BH|unfold Rn.Ao|unfold Rn.Cj|unfold Rn.Ai|unfold Rn.Ap|unfold Rn.Af|unfold Rn.sO|unfold Rn.Ag|unfold Rn.AQ|unfold Rn.p6|unfold Rn.AR|unfold Rn.wR|unfold Rn.p8|unfold Rn.CH|unfold Rn.AT|unfold Rn.AU|unfold Rn.Cw|unfold Rn.Aq|unfold Rn.og|unfold Rn.tj|unfold Rn.Ny|unfold Rn.VU)<;>(repeat' (first|exact YF.pure _|exact YF.fail|exact YF.lift _|exact YF.oP _|exact YF.bt _|exact YF.bJ _ _|exact YF.gA _|exact bG _ _|exact YF.iY _ _ _|exact YF.p0 _ _ _|exact YF.newRow _|exact YF.loadVar _ _ _ _|exact YF.wQ _ _ _ _|exact YF.loadAt _ _ bG _|exact YF.storeVar _ _ _ _ _|exact YF.buildSlice _ _ _ _|exact YF.makeSlice _ _ _ _|exact YF.firstCells _ _ _|exact YF.grown _ _ _ _ _|exact YF.wD _ _ _|exact YF.qR _ _ _ _ _ _ _|exact YF.pn _ _ _ _|exact YF.yM _ _ _ _|exact YF.Vc _|exact YF.yN _ _ _ _|exact YF.De _ _ _ _ _ _|exact YF.An _ _ _ _ _|exact YF.yH _ _ _ _ _|exact YF.xd _ _ _ _ _|exact YF.zl _ _ _|exact YF.Vd _ _ _|exact YF.yC _ _ _ _|exact YF.toText _ _ _ _ _|exact YF.zeroOf _ _|exact YF.toZero _ _ _ _ _|exact YF.Az _ _ _|exact YF.CI _|exact YF.acO _|exact YF.mV bG _ _|exact YF.su bG _ _ _|refine YF.aB (fun _ _=>?_)|refine YF.aG (fun _=>?_)|refine YF.bind ?_ (fun _=>?_)|split))
end Go.Rn
namespace Go.Rn
variable {α:Type} {s:AS} {i:Nat}
theorem wE{k m:Nat}{l:List Nat}:k∈below m l↔k∈l/\k<m:=by
 have h1:∀l:List Nat,k∈uN m l↔k∈l/\k<m:=by
  intro l;induction l with
  |nil=>simp[uN]
  |cons x l ih=>
   have e:uN m (x::l)=if m<=x then uN m l else x::uN m l:=by
    show @Bool.rec (fun _=>List Nat) (uN m l) (x::uN m l) (not<|Nat.ble m x)=_;by_cases h:m<=x
    ·have:Nat.ble m x=true:=by rw[Nat.ble_eq];exact h
     rw[this,if_pos h];rfl
    ·have:Nat.ble m x=false:=by
      cases q:Nat.ble m x with
      |false=>rfl
      |true=>rw[Nat.ble_eq] at q;exact absurd q h
     rw[this,if_neg h];rfl
   rw[e];by_cases h:m<=x
   ·rw[if_pos h,ih];constructor
    ·rintro ⟨a,b⟩;exact⟨List.mem_cons_of_mem _ a,b⟩
    ·rintro ⟨a,b⟩;rcases List.mem_cons.1 a with rfl|a
     ·omega
     ·exact⟨a,b⟩
   ·rw[if_neg h,List.mem_cons,ih,List.mem_cons];constructor
    ·rintro (rfl|⟨a,b⟩)
     ·exact⟨.inl rfl,by omega⟩
     ·exact⟨.inr a,b⟩
    ·rintro ⟨rfl|a,b⟩
     ·exact .inl rfl
     ·exact .inr ⟨a,b⟩
 have e:below m l=if m=0 then[] else uN m l:=by
  show @Bool.rec (fun _=>List Nat) (uN m l) [] (Nat.beq m 0)=_;rw[MO];by_cases h:m=0
  ·rw[if_pos h,if_pos (by rw[beq_eq];exact h)]
  ·rw[if_neg h,if_neg (by rw[beq_eq];exact h)]
 rw[e];by_cases h:m=0
 ·rw[if_pos h];subst h;simp
 ·rw[if_neg h,h1]
theorem Sw{m:M α}{s2:AS}{x:α×Met}(h:alone i m s= .ok x s2):
 ∃a s1,m ⟨s.h,s.nx,s.nx,[],[]⟩= .ok a s1/\x=(a,⟨i,below s.nx s1.rd,below s.nx s1.wr,s.nx,s1.nx⟩)/\s2=⟨s1.h,s1.nx,s.mark,below s.mark s1.rd++s.rd,below s.mark s1.wr++s.wr⟩:=by
 obtain⟨hh,nx,mark,rd,wr⟩:=s;have e:alone i m ⟨hh,nx,mark,rd,wr⟩=forced nx fun lo=>
  @R.rec α (fun _=>R<|α×Met) .bad (fun a s1=>
   @AS.rec (fun _=>R<|α×Met) (fun h1 pO _ gp nU=>forced pO fun hi=>.ok (a,⟨i,below lo gp,below lo nU,lo,hi⟩) ⟨h1,hi,mark,below mark gp++rd,below mark nU++wr⟩) s1)
   (m ⟨hh,lo,lo,[],[]⟩):=rfl
 rw[e,yB] at h;cases hm:m ⟨hh,nx,nx,[],[]⟩ with
 |bad=>rw[hm] at h;cases h
 |ok a s1=>rw[hm] at h;obtain⟨h1,pO,OV,gp,nU⟩:=s1;have h':forced pO (fun hi=>R.ok (a,(⟨i,below nx gp,below nx nU,nx,hi⟩:Met)) (⟨h1,hi,mark,below mark gp++rd,below mark nU++wr⟩:AS))= .ok x s2:=h;rw[yB] at h';cases h';exact⟨a,⟨h1,pO,OV,gp,nU⟩,by first|exact hm|rfl,rfl,rfl⟩
theorem abw{m:M α}{s1:AS}{a:α}(h:m ⟨s.h,s.nx,s.nx,[],[]⟩= .ok a s1):
 alone i m s= .ok (a,⟨i,below s.nx s1.rd,below s.nx s1.wr,s.nx,s1.nx⟩) ⟨s1.h,s1.nx,s.mark,below s.mark s1.rd++s.rd,below s.mark s1.wr++s.wr⟩:=by
 obtain⟨hh,nx,mark,rd,wr⟩:=s;have e:alone i m ⟨hh,nx,mark,rd,wr⟩=forced nx fun lo=>
  @R.rec α (fun _=>R<|α×Met) .bad (fun a s1=>
   @AS.rec (fun _=>R<|α×Met) (fun h1 pO _ gp nU=>forced pO fun hi=>.ok (a,⟨i,below lo gp,below lo nU,lo,hi⟩) ⟨h1,hi,mark,below mark gp++rd,below mark nU++wr⟩) s1)
   (m ⟨hh,lo,lo,[],[]⟩):=rfl
 rw[e,yB,h];obtain⟨h1,pO,OV,gp,nU⟩:=s1;show forced pO (fun hi=>R.ok (a,(⟨i,below nx gp,below nx nU,nx,hi⟩:Met)) (⟨h1,hi,mark,below mark gp++rd,below mark nU++wr⟩:AS))=_;rw[yB]
theorem YF.alone{α:Type}(i:Nat){m:M α}(hm:YF m):YF<|alone i m:=by
 intro s v s2 fi h;obtain⟨a,s1,h1,rfl,rfl⟩:=Sw h;obtain⟨dr,dw,d,x⟩:=hm ⟨s.h,s.nx,s.nx,[],[]⟩ a s1 ⟨Nat.le_refl _,fi.nx⟩ h1;have er:s1.rd=dr:=by have:=d.rd;simpa using this
 have ew:s1.wr=dw:=by have:=d.wr;simpa using this
 refine⟨below s.mark dr,below s.mark dw,⟨by show below s.mark s1.rd++s.rd=_;rw[er],by show below s.mark s1.wr++s.wr=_;rw[ew],d.nx,d.top,rfl,?_,?_,d.rM⟩,?_⟩
 ·intro k hk hn;exact d.same k (Nat.lt_of_lt_of_le hk fi.mark) fun e=>hn<|wE.2 ⟨e,hk⟩
 ·intro k hk;obtain⟨a,b⟩:=wE.1 hk;exact wE.2 ⟨d.sub k a,b⟩
 ·intro A m0 t ag hA;obtain⟨t1,e1,al⟩:=x A m0 ⟨t.h,t.nx,t.nx,[],[]⟩ ⟨ag.nx,ag.nx,Nat.le_trans ag.low fi.mark,ag.is⟩ fun k hk bZ=>hA k (wE.2 ⟨hk,Nat.lt_of_lt_of_le bZ ag.low⟩) bZ;have er':t1.rd=dr:=by have:=al.rd;simpa using this
  have ew':t1.wr=dw:=by have:=al.wr;simpa using this
  have hr:=abw (i:=i) (s:=t) e1;rw[er',ew', ←ag.nx, ←ag.mark, ←al.agree.nx] at hr;rw[er,ew];refine⟨_,hr,⟨rfl,rfl,ag.low,al.agree.is⟩,rfl,rfl,fun k hk hn=>al.same k hk fun e=>hn<|wE.2 ⟨e,Nat.lt_of_lt_of_le hk ag.low⟩,al.rM⟩
theorem YF.gM(P:Program){YG:aK}(bG:∀t a,YF<|YG t a)(nt:Nat)(ops:Array Oper)(o:Oper)(t:Tr AV):YF<|gM P YG nt ops o t:=by
 have hv:∀t op,YF<|(du P op).val YG t:=fun t op=>YF.GH P bG t op;unfold Rn.gM Bd;split<;>simp only[qD.val]
 ·unfold rL;refine YF.bind (hv _ _) fun _=>YF.lift _
 ·unfold tq;rename_i g _;refine YF.aG fun _=>?_;cases p9 ops g t
  ·exact YF.lift _
  ·exact YF.bind (hv _ _) fun _=>YF.lift _
theorem YF.jf(P:Program){YG:aK}(bG:∀t a,YF<|YG t a)(nt:Nat)(ops:Array Oper):∀(l:List Oper) (t:Tr AV),YF (jf P YG nt ops l t)
 |[],t=>YF.pure t
 |o::l,t=>YF.bind (YF.gM P bG nt ops o t) fun t=>YF.jf P bG nt ops l t
theorem YF.mW(P:Program){YG:aK}(bG:∀t a,YF<|YG t a)(nt:Nat)(ops:Array Oper):∀(l:List Oper) (i:Nat) (t:Tr AV),YF (mW P YG nt ops l i t)
 |[],_,_=>YF.pure _
 |o::l,i,t=>YF.bind (YF.alone i<|YF.gM P bG nt ops o t) fun x=>YF.bind (YF.mW P bG nt ops l (i+1) x.1) fun _=>YF.pure _
theorem YF.p7(P:Program){YG:aK}(bG:∀t a,YF<|YG t a)(nt:Nat)(ops:Array Oper)(t:Tr AV):YF<|p7 P YG nt ops t:=YF.bind (YF.mW P bG nt ops _ _ _) fun _=>YF.aG fun _=>YF.pure _
theorem YF.getLoop(l:Nat):YF<|getLoop l:=by
 unfold Rn.getLoop
 repeat' (first
  |exact YF.pure _|exact YF.fail|exact YF.lift _|exact YF.oP _|exact YF.bt _|exact YF.bJ _ _|exact YF.gA _
  |refine YF.aB (fun _ _=>?_)|refine YF.aG (fun _=>?_)|refine YF.bind ?_ (fun _=>?_)
  |split)
theorem YF.lM(l:Nat):YF<|lM l:=by
 unfold Rn.lM
 repeat' (first
  |exact YF.pure _|exact YF.fail|exact YF.lift _|exact YF.oP _|exact YF.bt _|exact YF.bJ _ _|exact YF.gA _|exact YF.getLoop _
  |refine YF.aB (fun _ _=>?_)|refine YF.aG (fun _=>?_)|refine YF.bind ?_ (fun _=>?_)
  |split)
theorem YF.afY(P:Program){YG:aK}(bG:∀t a,YF<|YG t a)(it:Item)(fn:FuncId)(t:Tr AV)(nt:Nat)(d:List Nat)(r:Option Nat)(k:List Item):YF<|(vh P it).val YG fn t nt d r k:=by
 cases it<;>simp only[vh]<;>(try simp only[qD.val])
 case code c=>
  unfold VV;split<;>simp only<;>(first|(unfold qq;exact YF.pure _)|(unfold nC;exact YF.pure _)|(unfold Ww;exact YF.pure _)|(unfold OT;exact YF.fail)|(unfold JC;exact YF.aB fun _ _=>YF.aB fun _ _=>YF.pure _)|(unfold Df;split<;>exact YF.pure _)|(unfold Dg;split<;>exact YF.pure _)|(unfold Iy;exact YF.bind (YF.jf P bG _ _ _ _) fun _=>YF.pure _)|(unfold H6;exact YF.bind (YF.p7 P bG _ _ _) fun _=>YF.pure _)|skip);unfold uT
  repeat' (first
   |exact YF.pure _|exact YF.fail|exact YF.lift _|exact YF.oP _|exact YF.bt _|exact YF.bJ _ _|exact YF.gA _
   |exact YF.mV bG _ _|exact bG _ _|exact YF.getLoop _|exact YF.lM _
   |refine YF.aB (fun _ _=>?_)|refine YF.aG (fun _=>?_)|refine YF.bind ?_ (fun _=>?_)
   |split)
 case beginRound=>
  unfold yO
  repeat' (first
   |exact YF.pure _|exact YF.fail|exact YF.lift _|exact YF.oP _|exact YF.bt _|exact YF.bJ _ _|exact YF.gA _|exact YF.getLoop _
   |refine YF.aB (fun _ _=>?_)|refine YF.aG (fun _=>?_)|refine YF.bind ?_ (fun _=>?_)
   |split)
 all_goals (first|exact YF.pure _|exact YF.fail)
theorem YF.ja(P:Program){YG:aK}(bG:∀t a,YF<|YG t a)(fr:AF):YF<|ja P YG fr:=by
 obtain⟨fn,t,nt,todo,d,r⟩:=fr;cases todo with
 |nil=>exact YF.pure _
 |cons it k=>exact YF.afY P bG it fn t nt d r k
theorem YF.nE(P:Program){YG:aK}(bG:∀t a,YF<|YG t a):∀(n:Nat) (fr:AF),YF (nE P YG n fr)
 |0,fr=>YF.ja P bG fr
 |n+1,fr=>YF.bind (YF.nE P bG n fr) (fun x=>by
  cases x with
  |go fr=>exact YF.nE P bG n fr
  |leave fr j=>exact YF.pure _)
theorem YF.qg(P:Program){YG:aK}(bG:∀t a,YF<|YG t a):∀(n k:Nat) (fr:AF),YF (qg P YG n k fr)
 |0,_,_=>YF.fail
 |n+1,k,fr=>YF.bind (YF.nE P bG k fr) (fun x=>by
  cases x with
  |go fr=>exact YF.qg P bG n (k+1) fr
  |leave fr j=>exact YF.pure _)
theorem YF.Ar(P:Program)(t:Tr AV)(r:ResultVar):YF<|Ar P t r:=by
 unfold Rn.Ar
 repeat' (first
  |exact YF.pure _|exact YF.fail|exact YF.lift _|exact YF.oP _|exact YF.bt _|exact YF.bJ _ _|exact YF.gA _|exact YF.loadVar _ _ _ _
  |refine YF.aB (fun _ _=>?_)|refine YF.aG (fun _=>?_)|refine YF.bind ?_ (fun _=>?_)
  |split)
theorem YF.sr(P:Program)(t:Tr AV):∀l:List ResultVar,YF (sr P t l)
 |[]=>YF.pure _
 |r::l=>YF.bind (YF.Ar P t r) fun _=>YF.bind (YF.sr P t l) fun _=>YF.pure _
theorem YF.qT:∀l:List Nat,YF (qT l)
 |[]=>YF.pure _
 |d::l=>YF.bind (YF.bt d) (fun o=>by
  split
  ·exact YF.bind (YF.bJ _ _) (fun _=>YF.qT l)
  ·exact YF.fail)
theorem YF.finish(P:Program)(rs:List ResultVar)(fr:AF)(j:Option Code):YF<|finish P rs fr j:=by
 unfold Rn.finish
 repeat' (first
  |exact YF.pure _|exact YF.fail|exact YF.lift _|exact YF.oP _|exact YF.bt _|exact YF.bJ _ _|exact YF.gA _|exact YF.qT _|exact YF.sr _ _ _
  |refine YF.aB (fun _ _=>?_)|refine YF.aG (fun _=>?_)|refine YF.bind ?_ (fun _=>?_)
  |split)
theorem YF.qW(fr:AF)(it:Operand):YF<|qW fr it:=by
 unfold Rn.qW
 repeat' (first
  |exact YF.pure _|exact YF.fail|exact YF.lift _|exact YF.bt _
  |refine YF.bind ?_ (fun _=>?_)
  |split)
theorem YF.ny(P:Program){YG:aK}(bG:∀t a,YF<|YG t a)(fr:AF)(n:Nat)(ob:ae)(o:Oper)(ops:Array Oper)(rest:List Oper)(k:List Item)(v:AV):
 YF (ny P YG fr n ob o ops rest k v):=by
 unfold Rn.ny
 repeat' (first
  |exact YF.pure _|exact YF.lift _|exact YF.bJ _ _|exact YF.jf P bG _ _ _ _
  |refine YF.bind ?_ fun _=>?_)
theorem YF.nu(P:Program){YG:aK}(bG:∀t a,YF<|YG t a)(fr:AF)(n m:Nat)(es:List<|AV×AV)(ex:Bool)(o:Oper)(ops:Array Oper)(rest:List Oper)(k:List Item):
 YF (nu P YG fr n m es ex o ops rest k):=by
 unfold Rn.nu
 repeat' (first
  |exact YF.pure _|exact YF.lift _|exact YF.bJ _ _|exact YF.jf P bG _ _ _ _
  |refine YF.bind ?_ fun _=>?_)
theorem YF.nz(P:Program){YG:aK}(bG:∀t a,YF<|YG t a):∀(f:Nat) (fr:AF),YF (nz P YG f fr)
 |0,_=>YF.fail
 |f+1,fr=>by
  unfold Rn.nz
  repeat' (first
   |exact YF.fail|exact YF.pure _|exact YF.nz P bG f _|exact YF.qW _ _|exact YF.ny P bG _ _ _ _ _ _ _ _|exact YF.nu P bG _ _ _ _ _ _ _ _ _|exact YF.ja P bG _
   |refine YF.bind ?_ (fun _=>?_)
   |split)
theorem YF.zm(P:Program){YG:aK}(bG:∀t a,YF<|YG t a)(w:Nat)(fr:AF):YF<|zm P YG w fr:=by
 unfold Rn.zm;split
 ·exact YF.nz P bG _ _
 ·exact YF.qg P bG _ _ _
theorem YF.Dh(P:Program)(u f n:Nat)(rs:List ResultVar)(body:Code){YG:aK}(bG:∀t a,YF<|YG t a)(args:List AV):YF<|Dh P u f n rs body YG args:=
 YF.aG (fun _=>YF.bind (YF.zm P bG _ _) (fun x=>by
  cases x with
  |go fr=>exact YF.fail
  |leave fr j=>exact YF.finish P rs fr j))
theorem YF.endRound(l:Nat)(j:Option Code):YF<|endRound l j:=by
 unfold Rn.endRound
 repeat' (first
  |exact YF.pure _|exact YF.fail|exact YF.lift _|exact YF.oP _|exact YF.bt _|exact YF.bJ _ _|exact YF.gA _|exact YF.getLoop _
  |refine YF.aB (fun _ _=>?_)|refine YF.aG (fun _=>?_)|refine YF.bind ?_ (fun _=>?_)
  |split)
theorem YF.Au(P:Program){YG:aK}(bG:∀t a,YF<|YG t a)(l:Nat)(args:List AV):YF<|Au P YG l args:=by
 unfold Rn.Au;refine YF.bind (YF.getLoop _) fun o=>?_;split
 ·exact YF.aG fun _=>YF.bind (YF.qg P bG _ _ _) (fun x=>by
   cases x with
   |go fr=>exact YF.fail
   |leave fr j=>exact YF.endRound l j)
 ·exact YF.fail
end Go.Rn
namespace Go.Rn
end Go.Rn
