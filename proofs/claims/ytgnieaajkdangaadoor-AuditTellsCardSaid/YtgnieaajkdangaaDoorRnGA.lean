import Derived.Calls
import Derived.Orders
set_option maxRecDepth 100000
set_option maxHeartbeats 8000000
set_option linter.unusedSimpArgs false
namespace Go.Rn
variable {α:Type} {P:Prop}
noncomputable section
inductive Tr (α:Type) where
 |nil:Tr α
 |node (l:Tr α) (v:Option α) (r:Tr α):Tr α
def Tr.pX(p:List Bool):Tr α->Option α:=
  @List.rec Bool (fun _=>Tr α->Option α) (fun t=> @Tr.rec α (fun _=>Option α) none (fun _ v _ _ _=>v) t)
    (fun b _ ih t=> @Tr.rec α (fun _=>Option α) none (fun l _ r _ _=>ih (@Bool.rec (fun _=>Tr α) r l b)) t) p
def Tr.jM(v:Option α)(p:List Bool):Tr α->Tr α:=
  @List.rec Bool (fun _=>Tr α->Tr α) (fun t=> @Tr.rec α (fun _=>Tr α) (.node .nil v .nil) (fun l _ r _ _=>.node l v r) t)
    (fun b _ ih t=> @Tr.rec α (fun _=>Tr α)
      (@Bool.rec (fun _=>Tr α) (.node .nil none (ih .nil)) (.node (ih .nil) none .nil) b)
      (fun l x r _ _=> @Bool.rec (fun _=>Tr α) (.node l x (ih r)) (.node (ih l) x r) b) t) p
theorem Tr.Bi(p:List Bool):(Tr.nil:Tr α).pX p=none:=by cases p<;>rfl
theorem Tr.A4(l r:Tr α)(v:Option α):(Tr.node l v r).pX []=v:=rfl
theorem Tr.A5(l r:Tr α)(v:Option α)(b:Bool)(p:List Bool):
  (Tr.node l v r).pX (b::p)=if b=true then l.pX p else r.pX p:=by cases b<;>rfl
theorem Tr.yg(l r:Tr α)(x v:Option α)(b:Bool)(p:List Bool):
  Tr.jM v (b::p) (Tr.node l x r)=if b=true then .node (Tr.jM v p l) x r else .node l x (Tr.jM v p r):=by cases b<;>rfl
theorem Tr.EW(v:Option α)(b:Bool)(p:List Bool):
  Tr.jM v (b::p) (Tr.nil:Tr α)=if b=true then .node (Tr.jM v p .nil) none .nil else .node .nil none (Tr.jM v p .nil):=by cases b<;>rfl
theorem Tr.Ez(v:Option α):∀(p q:List Bool) (t:Tr α),(Tr.jM v p t).pX q=if q=p then v else t.pX q
  | [],q,t=>by
    cases t with
    | nil=>
      show(Tr.node .nil v .nil).pX q=_
      cases q with
      |nil=>simp[Tr.A4]
      |cons b q=>simp[Tr.A5,Tr.Bi]
    | node l x r=>
      show(Tr.node l v r).pX q=_
      cases q with
      |nil=>simp[Tr.A4]
      |cons b q=>simp[Tr.A5]
  | a ::p,q,t=>by
    cases t with
    | nil=>
      rw[Tr.EW]
      cases q with
      |nil=>cases a<;>simp[Tr.A4,Tr.Bi]
      | cons b q=>
        cases a<;>cases b<;>simp[Tr.A5,Tr.Bi,Tr.Ez v p q]
    | node l x r=>
      rw[Tr.yg]
      cases q with
      |nil=>cases a<;>simp[Tr.A4]
      | cons b q=>
        cases a<;>cases b<;>simp[Tr.A5,Tr.Ez v p q]
def path(f:Nat):Nat->List Bool:=
  @Nat.rec (fun _=>Nat->List Bool) (fun _=>[])
    (fun _ ih n=> @Bool.rec (fun _=>List Bool) (List.cons (Nat.beq (Nat.mod n 2) 1) (ih (Nat.div (Nat.pred n) 2))) [] (Nat.beq n 0)) f
theorem EX(a b:α)(c:Bool): @Bool.rec (fun _=>α) a b c=if c=true then b else a:=by cases c<;>rfl
theorem beq_eq(n m:Nat):(Nat.beq n m=true)=(n=m):=by rw[Nat.beq_eq]
theorem A6(f n:Nat):path (f+1) n=if n=0 then[] else(Nat.beq (n % 2) 1)::path f ((n - 1) / 2):=by
 show @Bool.rec (fun _=>List Bool) (List.cons (Nat.beq (n % 2) 1) (path f ((n - 1) / 2))) [] (Nat.beq n 0)=_
 simp only[EX,beq_eq]
theorem Lb:∀(f n m:Nat),n+1<=2 ^ f->m+1<=2 ^ f->path f n=path f m->n=m
  |0,n,m,hn,hm,_=>by simp at hn hm;omega
  | f + 1,n,m,hn,hm,h=>by
    rw[A6,A6] at h
    have hp:2 ^ (f+1)=2*2 ^ f:=by rw[Nat.pow_succ];omega
    by_cases h0:n=0
    · by_cases h1:m=0
      · omega
      · rw[if_pos h0,if_neg h1] at h;cases h
    · by_cases h1:m=0
      · rw[if_neg h0,if_pos h1] at h;cases h
      · rw[if_neg h0,if_neg h1] at h
        injection h with ha hb
        have:=Lb f _ _ (by omega) (by omega) hb
        have hq:(n % 2=1)=(m % 2=1):=by rw[←beq_eq, ←beq_eq,ha]
        have gy:n % 2=1↔m % 2=1:=by rw[hq]
        omega
def top:Nat:=549755813888
def Tr.get(t:Tr α)(n:Nat):Option α:=Tr.pX (path 40 n) t
def Tr.put(t:Tr α)(n:Nat)(v:Option α):Tr α:=Tr.jM v (path 40 n) t
theorem Tr.get_nil(n:Nat):(Tr.nil:Tr α).get n=none:=Tr.Bi _
theorem J2:∀(f k n:Nat),n+1<2 ^ k->(path f n).length<k
  | 0,k,n,h=>by
    have:k≠0:=by intro e;subst e;simp at h
    show 0<k
    omega
  | f +1,k,n,h=>by
    rw[A6]
    have hk:k≠0:=by intro e;subst e;simp at h
    by_cases h0:n=0
    · rw[if_pos h0];show 0<k;omega
    · rw[if_neg h0]
      obtain⟨j,rfl⟩:∃j,k=j+1:=⟨k - 1,by omega⟩
      have hp:2 ^ (j+1)=2*2 ^ j:=by rw[Nat.pow_succ];omega
      have:=J2 f j ((n - 1) / 2) (by omega)
      simp only[List.length_cons];omega
theorem Kw:∀(f k n:Nat),k<=f->2 ^ k<=n+1->k<=(path f n).length
  |_,0,_,_,_=>Nat.zero_le _
  |0,k+1,_,h,_=>by omega
  | f+1,k+1,n,h,hn=>by
    have hp:2 ^ (k+1)=2*2 ^ k:=by rw[Nat.pow_succ];omega
    have h1:1<=2 ^ k:=Nat.one_le_two_pow
    rw[A6,if_neg (by omega)]
    have:=Kw f k ((n - 1) / 2) (by omega) (by omega)
    simp only[List.length_cons];omega
theorem LL{n m:Nat}(h:n<top)(e:m≠n):path 40 m≠path 40 n:=by
 unfold top at h
 by_cases hm:m+1<=2 ^ 40
 ·exact fun k=>e (Lb 40 m n hm (by omega) k)
 ·intro k
  have h1:=Kw 40 40 m (Nat.le_refl _) (by omega)
  have h2:=J2 40 40 n (by omega)
  rw[k] at h1;omega
theorem Tr.qu(t:Tr α)(n m:Nat)(v:Option α)(h:n<top):(t.put n v).get m=if m=n then v else t.get m:=by
 unfold Tr.get Tr.put
 rw[Tr.Ez]
 by_cases e:m=n
 ·subst e;simp
 ·simp[e,LL h e]
theorem Tr.hH(t:Tr α)(n m:Nat)(v:Option α)(h:n<top)(_:m<top):(t.put n v).get m=if m=n then v else t.get m:=Tr.qu t n m v h
def Tr.fill(l:List α):Nat->Tr α->Tr α:=
 @List.rec α (fun _=>Nat->Tr α->Tr α) (fun _ t=>t) (fun x _ ih i t=>ih (Nat.succ i) (t.put i (some x))) l
theorem Tr.EY:∀(l:List α) (i:Nat) (t:Tr α) (m:Nat),i+l.length<=top->m<top->
    (Tr.fill l i t).get m=if i<=m/\m<i+l.length then l[m - i]? else t.get m
  | [],i,t,m,_,_=>by
    show t.get m=_
    simp;intro h1 h2;omega
  | x ::l,i,t,m,h,hm=>by
    simp only[List.length_cons] at h
    show(Tr.fill l (i+1) (t.put i (some x))).get m=_
    rw[Tr.EY l _ _ _ (by omega) hm,Tr.hH _ _ _ _ (by omega) hm]
    simp only[List.length_cons]
    by_cases h1:i+1<=m/\m<i+1+l.length
    · have h2:i<=m/\m<i+(l.length+1):=by omega
      rw[if_pos h1,if_pos h2]
      obtain⟨k,rfl⟩:∃k,m=i+1+k:=⟨m - (i+1),by omega⟩
      rw[show i+1+k - (i+1)=k from by omega,show i+1+k - i=k+1 from by omega]
      simp
    · rw[if_neg h1]
      by_cases e:m=i
      · subst e;simp
      · have h2:¬(i<=m/\m<i+(l.length+1)):=by omega
        rw[if_neg e,if_neg h2]
theorem Tr.rH:∀(l:List α) (i:Nat) (t:Tr α) (m:Nat),i+l.length<=top->
    (Tr.fill l i t).get m=if i<=m/\m<i+l.length then l[m - i]? else t.get m
  | [],i,t,m,_=>by
    show t.get m=_
    simp;intro h1 h2;omega
  | x ::l,i,t,m,h=>by
    simp only[List.length_cons] at h
    show(Tr.fill l (i+1) (t.put i (some x))).get m=_
    rw[Tr.rH l _ _ _ (by omega),Tr.qu _ _ _ _ (by omega)]
    simp only[List.length_cons]
    by_cases h1:i+1<=m/\m<i+1+l.length
    · have h2:i<=m/\m<i+(l.length+1):=by omega
      rw[if_pos h1,if_pos h2]
      obtain⟨k,rfl⟩:∃k,m=i+1+k:=⟨m - (i+1),by omega⟩
      rw[show i+1+k - (i+1)=k from by omega,show i+1+k - i=k+1 from by omega]
      simp
    · rw[if_neg h1]
      by_cases e:m=i
      · subst e;simp
      · have h2:¬(i<=m/\m<i+(l.length+1)):=by omega
        rw[if_neg e,if_neg h2]
end
theorem aF(h:P:=by omega):P:=h
theorem fj(h:P:=by simp[Op.operands]):P:=h
theorem gm(h:P:=by decide):P:=h
theorem jQ(h:P:=by simp):P:=h
theorem qd(h:P:=by simp;omega):P:=h
end Go.Rn
namespace Go.Rn
variable {l:List Item} {it:Item}
def loose(b:Array Nat)(i j:Nat):Bool:= !((b.getD i 0).testBit j||(b.getD j 0).testBit i)
def BA(ops:Array Oper):Prop:=∀(j:Nat) (o:Oper) (e:Edge),ops[j]? =some o->e∈o.after->Region.binds .any e=true->e.on<j
def U0(ops:Array Oper):Prop:=∀(i j:Nat) (x y:Oper) (d:Tmp),i≠j->ops[i]? =some x->ops[j]? =some y->x.dst=some d->(d∈y.looksAt ops\/y.dst=some d)->loose (Region.before ops) i j=false
structure B4 (ops:Array Oper):Prop where
 Nz:BA ops
 wR:U0 ops
def gu:Code->Prop
 | .seq a b=>gu a/\gu b
 | .cond _ a b=>gu a/\gu b
 | .block _ b=>gu b
 | .loop b=>gu b
 | .scope b=>gu b
 | .region _ ops draw=>draw=true->B4 ops
 | .rangeFunc _ _ a b=>gu a/\gu b
 |_=>True
def BQ:Item->Prop
 | .code c=>gu c
 | .inLoop b=>gu b
 | .inScope b=>gu b
 |_=>True
def iE(l:List Item):Prop:=∀it∈l,BQ it
structure yP (fV:Option Code) (assign body:Code):Prop where
 fV:∀c,fV=some c->gu c
 assign:gu assign
 body:gu body
theorem iE.cons(h:BQ it)(k:iE l):iE (it::l):=by
 intro x hx
 rcases List.mem_cons.1 hx with rfl|hx
 ·exact h
 ·exact k x hx
theorem iE.head(h:iE (it::l)):BQ it:=h it List.mem_cons_self
theorem iE.tail(h:iE (it::l)):iE l:=fun x hx=>h x (List.mem_cons_of_mem _ hx)
theorem iE.nil:iE []:=fun _ h=>by cases h
theorem EA{id:Nat}:∀{k k':List Item},exitTo id k=some k'->iE k->iE k'
  |[],_,h,_=>by simp[exitTo] at h
  | it::k,k',h,hk=>by
    cases it<;>simp only[exitTo] at h<;>first
      |exact EA h hk.tail
      | (split at h
         · injection h with h;subst h;exact hk.tail
         · exact EA h hk.tail)
theorem QZ{l:Nat}:∀{c r:Code},findLabel c l=some r->gu c->gu r:=by
  intro c
  induction c with
  | seq a b uS uT=>
    intro r h hc
    simp only[findLabel] at h
    cases e:findLabel a l with
    |some q=>rw[e] at h;injection h with h;subst h;exact⟨uS e hc.1,hc.2⟩
    |none=>rw[e] at h;exact uT h hc.2
  | label l'=>
    intro r h _
    simp only[findLabel] at h
    split at h
    · injection h with h;subst h;trivial
    · cases h
  |_=>intro r h _;simp[findLabel] at h
theorem EB{l:Nat}:∀{k k':List Item},gotoIn l k=some k'->iE k->iE k'
  |[],_,h,_=>by simp[gotoIn] at h
  | it::k,k',h,hk=>by
    cases it<;>simp only[gotoIn] at h<;>first
      |exact EB h hk.tail
      |skip
    rename_i body
    cases e:findLabel body l with
    |some q=>rw[e] at h;injection h with h;subst h;exact .cons (QZ e hk.head) hk
    |none=>rw[e] at h;exact EB h hk.tail
end Go.Rn
namespace Go.Rn
variable {n sh b nt:Nat} {v:Value} {a:Array Value}
inductive kT where
 |known (c:Nat)
 |aX (lo e:Nat)
 |lost
 deriving Inhabited,DecidableEq
inductive AV where
 |bool (b:Bool)
 |int (k:IntKind) (n:Int)
 |str (s:ByteArray)
 |ptr (a:Option (Nat×Nat))
 |slice (a:Option (Nat×Nat)) (len:Nat) (cap:kT)
 |ae (n o len:Nat)
 |kc (n o:Nat)
 |map (r:Option Nat)
 |func (fn:Fn) (first captured:List AV)
 |yield (l:Nat)
 |nilFunc
 |iface (t:TypeId) (v:AV)
 |nilIface
 |agg (cells:List AV)
 |tuple (vs:List AV)
 |w9 (n:Nat)
 deriving Inhabited
abbrev Ren:=Nat->Option (Nat×Nat)
def Ren.le(ρ σ:Ren):Prop:=∀n x,ρ n=some x->σ n=some x
theorem Ren.le_refl(ρ:Ren):ρ.le ρ:=fun _ _ h=>h
theorem Ren.le_trans{ρ σ τ:Ren}(h:ρ.le σ)(k:σ.le τ):ρ.le τ:=fun n x e=>k n x (h n x e)
def LM:Fn->Bool
 | .yield _=>false
 |_=>true
def pr(a b:Nat):Nat:=2 ^ a*(2*b+1)
theorem eQ:∀{a b c d:Nat},pr a b=pr c d->a=c/\b=d
  |0,b,0,d,h=>by unfold pr at h;omega
  | 0,b,c+1,d,h=>by
    unfold pr at h
    have e:2 ^ (c+1)*(2*d+1)=2*(2 ^ c*(2*d+1)):=by rw[Nat.pow_succ,Nat.mul_comm (2 ^ c) 2,Nat.mul_assoc]
    rw[e] at h;omega
  | a+1,b,0,d,h=>by
    unfold pr at h
    have e:2 ^ (a+1)*(2*b+1)=2*(2 ^ a*(2*b+1)):=by rw[Nat.pow_succ,Nat.mul_comm (2 ^ a) 2,Nat.mul_assoc]
    rw[e] at h;omega
  | a+1,b,c+1,d,h=>by
    have e1:pr (a+1) b=2*pr a b:=by unfold pr;rw[Nat.pow_succ,Nat.mul_comm (2 ^ a) 2,Nat.mul_assoc]
    have e2:pr (c+1) d=2*pr c d:=by unfold pr;rw[Nat.pow_succ,Nat.mul_comm (2 ^ c) 2,Nat.mul_assoc]
    obtain⟨h1,h2⟩:=eQ (a:=a) (b:=b) (c:=c) (d:=d) aF
    exact⟨by omega,h2⟩
def hn(n b sh:Nat):Nat:=top+pr n (pr b sh)
theorem mG(n b sh:Nat):top<=hn n b sh:=Nat.le_add_right _ _
theorem MQ{n' b' Ig:Nat}(h:hn n b sh=hn n' b' Ig):n=n'/\b=b'/\sh=Ig:=by
 unfold hn at h
 obtain⟨h1,h2⟩:=eQ (show pr n (pr b sh)=pr n' (pr b' Ig) by omega)
 exact⟨h1,eQ h2⟩
def nN(ρ:Ren)(n b sh:Nat):Prop:=(¬top<=n/\ρ n=some (b,sh))\/(top<=n/\ρ (hn n b sh)≠none)
theorem nN.high{ρ:Ren}(h:nN ρ n b sh)(ht:top<=n):ρ (hn n b sh)≠none:=h.elim (fun h=>absurd ht h.1) fun h=>h.2
theorem nN.low{ρ:Ren}(h:nN ρ n b sh)(ht:¬top<=n):ρ n=some (b,sh):=h.elim (fun h=>h.2) fun h=>absurd h.1 ht
theorem nN.mono{ρ σ:Ren}(h:ρ.le σ):nN ρ n b sh->nN σ n b sh
  | .inl ⟨a,b⟩=>.inl ⟨a,h _ _ b⟩
  | .inr ⟨a,b⟩=>.inr ⟨a,fun e=>b (by
    cases q:ρ (hn n _ sh) with
    |none=>rfl
    |some x=>rw[h _ _ q] at e;cases e)⟩
mutual
def VR(ρ:Ren):AV->Value->Prop
 | .bool b,v=>v= .bool b
 | .int k n,v=>v= .int k n
 | .str s,v=>v= .string s
 | .ptr none,v=>v= .pointer none
 | .ptr (some (n,o)),v=>∃b N,ρ n=some (b,N)/\v= .pointer (some ⟨b,o,none⟩)
 | .slice none len (.known c),v=>v= .slice none len c/\len=0/\c=0
 | .slice none _ (.aX _ _),_=>False
 | .slice none _ .lost,_=>False
 | .slice (some (n,_)) len .lost,v=>len=0/\∃b N o c,ρ n=some (b,N)/\v= .slice (some ⟨b,o,none⟩) 0 c
 | .slice (some (n,o)) len (.known c),v=>∃b N,ρ n=some (b,N)/\v= .slice (some ⟨b,o,none⟩) len c
 | .slice (some (n,o)) len (.aX lo e),v=>∃b N c,ρ n=some (b,N)/\v= .slice (some ⟨b,o,none⟩) len c/\lo<=c/\len<=c/\o+c*e<=N
 | .ae n o len,v=>(top<=n/\len=0/\∃a c,v= .slice a 0 c)\/∃b sh c,nN ρ n b sh/\v= .slice (some ⟨b,sh+o,none⟩) len c/\(top<=n->len<=c)
 | .kc n o,v=>∃b sh,nN ρ n b sh/\v= .pointer (some ⟨b,sh+o,none⟩)
 | .map none,v=>v= .map none
 | .map (some n),v=>∃b N,ρ n=some (b,N)/\v= .map (some b)
 | .func fn first captured,v=>LM fn=true/\∃f c,v= .func fn f c/\aQ ρ first f.toList/\aQ ρ captured c.toList
 | .yield l,v=>∃b N,ρ l=some (b,N)/\v= .func (.yield b) #[] #[]
 | .nilFunc,v=>v= .nilFunc
 | .iface t x,v=>∃y,v= .iface t y/\VR ρ x y
 | .nilIface,v=>v= .nilIface
 | .agg l,v=>∃a,v= .agg a/\aQ ρ l a.toList
 | .tuple l,v=>∃a,v= .tuple a/\aQ ρ l a.toList
 | .w9 n,v=>v= .string ⟨(List.replicate n (0:UInt8)).toArray⟩
def aQ(ρ:Ren):List AV->List Value->Prop
 |[],l=>l=[]
 |x::xs,l=>∃y ys,l=y::ys/\VR ρ x y/\aQ ρ xs ys
end
mutual
theorem VR.mono{ρ σ:Ren}(h:ρ.le σ):∀(x:AV) (v:Value),VR ρ x v->VR σ x v
  | .bool _,_,k=>by simpa only[VR] using k
  | .int _ _,_,k=>by simpa only[VR] using k
  | .str _,_,k=>by simpa only[VR] using k
  | .w9 _,_,k=>by simpa only[VR] using k
  | .ptr none,_,k=>by simpa only[VR] using k
  | .ptr (some (n,o)),_,k=>by
    simp only[VR] at k ⊢;obtain⟨b,N,e,r⟩:=k;exact⟨b,N,h _ _ e,r⟩
  | .slice none len (.known c),_,k=>by simpa only[VR] using k
  | .slice none _ (.aX _ _),_,k=>by simp only[VR] at k
  | .slice none _ .lost,_,k=>by simp only[VR] at k
  | .slice (some (n,o)) len .lost,_,k=>by
    simp only[VR] at k ⊢;obtain⟨l,b,N,p,c,e,r⟩:=k;exact⟨l,b,N,p,c,h _ _ e,r⟩
  | .slice (some (n,o)) len (.known c),_,k=>by
    simp only[VR] at k ⊢;obtain⟨b,N,e,r⟩:=k;exact⟨b,N,h _ _ e,r⟩
  | .slice (some (n,o)) len (.aX lo e),_,k=>by
    simp only[VR] at k ⊢;obtain⟨b,N,c,e,r⟩:=k;exact⟨b,N,c,h _ _ e,r⟩
  | .ae n o len,_,k=>by
    simp only[VR] at k ⊢;rcases k with k|⟨b,sh,c,e,r⟩;exact .inl k;exact .inr ⟨b,sh,c,e.mono h,r⟩
  | .kc n o,_,k=>by
    simp only[VR] at k ⊢;obtain⟨b,sh,e,r⟩:=k;exact⟨b,sh,e.mono h,r⟩
  | .map none,_,k=>by simpa only[VR] using k
  | .map (some n),_,k=>by
    simp only[VR] at k ⊢;obtain⟨b,N,e,r⟩:=k;exact⟨b,N,h _ _ e,r⟩
  | .func fn first captured,_,k=>by
    simp only[VR] at k ⊢;obtain⟨p,f,c,e,r,s⟩:=k;exact⟨p,f,c,e,aQ.mono h _ _ r,aQ.mono h _ _ s⟩
  | .yield l,_,k=>by
    simp only[VR] at k ⊢;obtain⟨b,N,e,r⟩:=k;exact⟨b,N,h _ _ e,r⟩
  | .nilFunc,_,k=>by simpa only[VR] using k
  | .iface t x,_,k=>by
    simp only[VR] at k ⊢;obtain⟨y,e,r⟩:=k;exact⟨y,e,VR.mono h _ _ r⟩
  | .nilIface,_,k=>by simpa only[VR] using k
  | .agg l,_,k=>by
    simp only[VR] at k ⊢;obtain⟨a,e,r⟩:=k;exact⟨a,e,aQ.mono h _ _ r⟩
  | .tuple l,_,k=>by
    simp only[VR] at k ⊢;obtain⟨a,e,r⟩:=k;exact⟨a,e,aQ.mono h _ _ r⟩
theorem aQ.mono{ρ σ:Ren}(h:ρ.le σ):∀(x:List AV) (v:List Value),aQ ρ x v->aQ σ x v
  |[],_,k=>by simpa only[aQ] using k
  | x::xs,_,k=>by
    simp only[aQ] at k ⊢;obtain⟨y,ys,e,r,s⟩:=k;exact⟨y,ys,e,VR.mono h _ _ r,aQ.mono h _ _ s⟩
end
theorem aQ.length{ρ:Ren}:∀{x:List AV} {v:List Value},aQ ρ x v->x.length=v.length
  |[],_,k=>by simp only[aQ] at k;subst k;rfl
  | x::xs,_,k=>by
    simp only[aQ] at k;obtain⟨y,ys,rfl,_,s⟩:=k;simp[aQ.length s]
theorem aQ.get{ρ:Ren}:∀{x:List AV} {v:List Value},aQ ρ x v->∀(i:Nat) (a:AV),x[i]? =some a->∃b,v[i]? =some b/\VR ρ a b
  |[],_,_,_,_,h=>by simp at h
  | x::xs,_,k,i,a,h=>by
    simp only[aQ] at k;obtain⟨y,ys,rfl,r,s⟩:=k
    cases i with
    |zero=>simp at h;subst h;exact⟨y,rfl,r⟩
    |succ i=>simp at h;obtain⟨b,hb,hr⟩:=aQ.get s i a h;exact⟨b,by simpa using hb,hr⟩
theorem aQ.append{ρ:Ren}:∀{x:List AV} {v:List Value} {x':List AV} {v':List Value},aQ ρ x v->aQ ρ x' v'->aQ ρ (x++x') (v++v')
  |[],_,_,_,k,h=>by simp only[aQ] at k;subst k;simpa using h
  | x::xs,_,_,_,k,h=>by
    simp only[aQ] at k;obtain⟨y,ys,rfl,r,s⟩:=k
    simp only[List.cons_append,aQ];exact⟨y,_,rfl,r,aQ.append s h⟩
theorem aQ.F0{ρ:Ren}:∀(x:List AV) (v:List Value),x.length=v.length->(∀(i:Nat) (a:AV) (b:Value),x[i]? =some a->v[i]? =some b->VR ρ a b)->aQ ρ x v
  |[],[],_,_=>by simp only[aQ]
  |[],_::_,h,_=>by simp at h
  |_::_,[],h,_=>by simp at h
  | x::xs,y::ys,h,k=>by
    simp only[aQ];exact⟨y,ys,rfl,k 0 x y rfl rfl,aQ.F0 xs ys (by simpa using h) fun i a b ha hb=>k (i+1) a b (by simpa using ha) (by simpa using hb)⟩
theorem aQ.take{ρ:Ren}:∀(n:Nat) {x:List AV} {v:List Value},aQ ρ x v->aQ ρ (x.take n) (v.take n)
  |0,_,_,_=>by simp[aQ]
  |n+1,[],_,k=>by simp only[aQ] at k;subst k;simp[aQ]
  | n+1,x::xs,_,k=>by
    simp only[aQ] at k;obtain⟨y,ys,rfl,r,s⟩:=k
    simp only[List.take_succ_cons,aQ];exact⟨y,_,rfl,r,aQ.take n s⟩
theorem aQ.drop{ρ:Ren}:∀(n:Nat) {x:List AV} {v:List Value},aQ ρ x v->aQ ρ (x.drop n) (v.drop n)
  |0,_,_,k=>by simpa using k
  |n+1,[],_,k=>by simp only[aQ] at k;subst k;simp[aQ]
  | n+1,x::xs,_,k=>by
    simp only[aQ] at k;obtain⟨y,ys,rfl,r,s⟩:=k
    simpa using aQ.drop n s
def lH:AV:=.tuple []
theorem VR.undef(ρ:Ren):VR ρ lH Go.undef:=by
 simp only[lH,Go.undef,VR,aQ];exact⟨#[],rfl,rfl⟩
def AV.cells:AV->List AV
 | .agg l=>l
 |v=>[v]
theorem VR.cells{ρ:Ren}{x:AV}(h:VR ρ x v):aQ ρ x.cells v.cells.toList:=by
  cases x<;>(try (simp only[VR] at h;subst h;simp only[AV.cells,Value.cells,aQ,VR];exact⟨_,_,rfl,rfl,rfl⟩))
  case ptr a=>
    cases a with
    |none=>simp only[VR] at h;subst h;simp only[AV.cells,Value.cells,aQ,VR];exact⟨_,_,rfl,rfl,rfl⟩
    | some a=>
      obtain⟨n,o⟩:=a
      have h':=h
      simp only[VR] at h';obtain⟨b,N,_,rfl⟩:=h'
      simp only[AV.cells,Value.cells,aQ];exact⟨_,_,rfl,h,rfl⟩
  case slice a len cap=>
    have:∃p q r,v= .slice p q r:=by
      cases a with
      |none=>cases cap<;>simp only[VR] at h;exact⟨_,_,_,h.1⟩
      | some a=>
        obtain⟨n,o⟩:=a
        cases cap<;>simp only[VR] at h
        · obtain⟨b,N,_,rfl⟩:=h;exact⟨_,_,_,rfl⟩
        · obtain⟨b,N,c,_,rfl,_⟩:=h;exact⟨_,_,_,rfl⟩
        · obtain⟨_,b,N,p,c,_,rfl⟩:=h;exact⟨_,_,_,rfl⟩
    obtain⟨p,q,r,rfl⟩:=this
    simp only[AV.cells,Value.cells,aQ];exact⟨_,_,rfl,h,rfl⟩
  case ae n o len=>
    have h':=h
    simp only[VR] at h';rcases h' with⟨_,_,_,_,rfl⟩|⟨b,sh,c,_,rfl,_⟩<;>
    (simp only[AV.cells,Value.cells,aQ];exact⟨_,_,rfl,h,rfl⟩)
  case kc n o=>
    have h':=h
    simp only[VR] at h';obtain⟨b,sh,_,rfl⟩:=h'
    simp only[AV.cells,Value.cells,aQ];exact⟨_,_,rfl,h,rfl⟩
  case map a=>
    cases a with
    |none=>simp only[VR] at h;subst h;simp only[AV.cells,Value.cells,aQ,VR];exact⟨_,_,rfl,rfl,rfl⟩
    | some a=>
      have h':=h
      simp only[VR] at h';obtain⟨b,N,_,rfl⟩:=h'
      simp only[AV.cells,Value.cells,aQ];exact⟨_,_,rfl,h,rfl⟩
  case func fn f c=>
    have h':=h
    simp only[VR] at h';obtain⟨_,_,_,rfl,_⟩:=h'
    simp only[AV.cells,Value.cells,aQ];exact⟨_,_,rfl,h,rfl⟩
  case yield l=>
    have h':=h
    simp only[VR] at h';obtain⟨_,_,_,rfl⟩:=h'
    simp only[AV.cells,Value.cells,aQ];exact⟨_,_,rfl,h,rfl⟩
  case iface t x=>
    have h':=h
    simp only[VR] at h';obtain⟨_,rfl,_⟩:=h'
    simp only[AV.cells,Value.cells,aQ];exact⟨_,_,rfl,h,rfl⟩
  case agg l=>
    simp only[VR] at h;obtain⟨a,rfl,k⟩:=h
    simpa only[AV.cells,Value.cells] using k
  case tuple l=>
    have h':=h
    simp only[VR] at h';obtain⟨_,rfl,_⟩:=h'
    simp only[AV.cells,Value.cells,aQ];exact⟨_,_,rfl,h,rfl⟩
def AV.ct:AV->Bool
 | .agg _| .tuple _=>false
 |_=>true
theorem VR.ct{ρ:Ren}{x:AV}(h:VR ρ x v)(hx:x.ct=true):∀cs,v≠ .agg cs/\v≠ .tuple cs:=by
  intro cs
  cases x<;>(try (simp only[VR] at h;subst h;simp;done))<;>(try (simp[AV.ct] at hx;done))
  case ptr a=>
    cases a with
    |none=>simp only[VR] at h;subst h;simp
    |some a=>obtain⟨n,o⟩:=a;simp only[VR] at h;obtain⟨_,_,_,rfl⟩:=h;simp
  case slice a len cap=>
    cases a with
    |none=>cases cap<;>simp only[VR] at h;rw[h.1];simp
    | some a=>
      obtain⟨n,o⟩:=a
      cases cap<;>simp only[VR] at h
      · obtain⟨_,_,_,rfl⟩:=h;simp
      · obtain⟨_,_,_,_,rfl,_⟩:=h;simp
      · obtain⟨_,_,_,_,_,_,rfl⟩:=h;simp
  case ae n o len=>simp only[VR] at h;rcases h with⟨_,_,_,_,rfl⟩|⟨_,_,_,_,rfl,_⟩<;>simp
  case kc n o=>simp only[VR] at h;obtain⟨_,_,_,rfl⟩:=h;simp
  case map a=>
    cases a with
    |none=>simp only[VR] at h;subst h;simp
    |some a=>simp only[VR] at h;obtain⟨_,_,_,rfl⟩:=h;simp
  case func fn f c=>simp only[VR] at h;obtain⟨_,_,_,rfl,_⟩:=h;simp
  case yield l=>simp only[VR] at h;obtain⟨_,_,_,rfl⟩:=h;simp
  case iface t x=>simp only[VR] at h;obtain⟨_,rfl,_⟩:=h;simp
inductive aE where
 |cells (n:Nat) (t:Tr AV) (z:List AV)
 |map (es:List (AV×AV)) (ak:Nat)
 |mH (es:List (AV×AV))
 |loop (st:LoopState) (fV:Option Code) (fn:FuncId) (tmps:Tr AV) (nt:Nat) (params:List Tmp) (assign body:Code) (defers:Nat)
 |defs
 |ro (n:Nat) (t:Tr AV)
 |pR (n:Nat) (t:Tr AV)
 |LO (s:ByteArray) (pos:Nat)
 |iter (m:Nat) (es:List (AV×AV)) (exact:Bool) (left:List (AV×AV)) (cur:Option (AV×AV))
 |sk
 deriving Inhabited
noncomputable def cellAt(t:Tr AV)(z:List AV)(i:Nat):Option AV:=
 match t.get i with
 |some v=>some v
 |none=>z[i % z.length]?
def aE.du:aE->Bool
 | .ro _ _=>true
 | .pR _ _=>true
 |_=>false
def TR(ρ:Ren)(nt:Nat)(t:Tr AV)(a:Array Value):Prop:=
 a.size=nt/\∀i x,t.get i=some x->VR ρ x (a.getD i Go.undef)
theorem TR.mono{ρ σ:Ren}(h:ρ.le σ){t:Tr AV}(k:TR ρ nt t a):TR σ nt t a:=
 ⟨k.1,fun i x e=>VR.mono h _ _ (k.2 i x e)⟩
theorem TR.set{ρ:Ren}{t:Tr AV}(k:TR ρ nt t a){d:Nat}{x:AV}(hd:d<nt)(ht:nt<=top)(h:VR ρ x v):
  TR ρ nt (t.put d (some x)) (a.setIfInBounds d v):=by
 refine⟨by simp[k.1],fun i y hy=>?_⟩
 rw[Tr.qu _ _ _ _ aF] at hy
 by_cases e:i=d
 ·subst e
  have:(a.setIfInBounds i v).getD i Go.undef=v:=by
   rw[Array.getD_eq_getD_getElem?,Array.getElem?_setIfInBounds_self_of_lt (by rw[k.1];exact hd)];rfl
  rw[if_pos rfl] at hy;injection hy with hy;subst hy
  rw[this];exact h
 ·have:(a.setIfInBounds d v).getD i Go.undef=a.getD i Go.undef:=by
   rw[Array.getD_eq_getD_getElem?,Array.getElem?_setIfInBounds_ne aF, ←Array.getD_eq_getD_getElem?]
  rw[if_neg e] at hy;rw[this];exact k.2 i y hy
def jy(ρ:Ren):List (AV×AV)->List MapEntry->Nat->Prop
 |[],l,_=>l=[]
 |x::xs,l,i=>∃e es,l=e::es/\VR ρ x.1 e.key/\VR ρ x.2 e.val/\e.born=i/\jy ρ xs es (i+1)
theorem jy.mono{ρ σ:Ren}(h:ρ.le σ):∀(x:List (AV×AV)) (l:List MapEntry) (i:Nat),jy ρ x l i->jy σ x l i
  |[],_,_,k=>k
  | x::xs,_,i,k=>by
    obtain⟨e,es,r,a,b,c,d⟩:=k;exact⟨e,es,r,VR.mono h _ _ a,VR.mono h _ _ b,c,jy.mono h xs es _ d⟩
def fw(ρ:Ren):List (AV×AV)->List MapEntry->Prop
 |[],l=>l=[]
 |x::xs,l=>∃e es,l=e::es/\VR ρ x.1 e.key/\VR ρ x.2 e.val/\fw ρ xs es
theorem fw.mono{ρ σ:Ren}(h:ρ.le σ):∀(x:List (AV×AV)) (l:List MapEntry),fw ρ x l->fw σ x l
  |[],_,k=>k
  | x::xs,_,k=>by
    obtain⟨e,es,r,a,b,d⟩:=k;exact⟨e,es,r,VR.mono h _ _ a,VR.mono h _ _ b,fw.mono h xs es d⟩
theorem jy.eqs{ρ:Ren}:∀{x:List (AV×AV)} {l:List MapEntry} {i:Nat},jy ρ x l i->fw ρ x l
  |[],_,_,k=>k
  | _::_,_,_,k=>by
    obtain⟨e,es,r,a,b,_,d⟩:=k;exact⟨e,es,r,a,b,d.eqs⟩
def uU(ρ:Ren)(es:List (AV×AV))(l:List MapEntry):Prop:=∃l',l.Perm l'/\fw ρ es l'
theorem uU.mono{ρ σ:Ren}(h:ρ.le σ){x:List (AV×AV)}{l:List MapEntry}(k:uU ρ x l):uU σ x l:=by
 obtain⟨l',p,n⟩:=k
 exact⟨l',p,n.mono h⟩
def sameKey:AV->AV->Option Bool
  | .int k a,.int k' b=>match decide (k=k') with
    |true=>some (a == b)
    |false=>none
  | .str a,.str b=>some (a == b)
  | .bool a,.bool b=>some (a == b)
  |_,_=>none
def jY(es:List (AV×AV)):Prop:=es.Pairwise fun a b=>sameKey a.1 b.1=some false/\sameKey b.1 a.1=some false
def rQ(l:List MapEntry)(ak:Nat):Prop:=(l.map (·.born)).Nodup/\∀e∈l,e.born<ak
def OR(ρ:Ren)(N:Nat):aE->Obj->Prop
 | .cells n t z,o=>∃c e,o= .cells c e (0,0)/\c.size=N/\n<=N/\∀i,i<n->∃x v,cellAt t z i=some x/\x.ct=true/\c[i]? =some v/\VR ρ x v
 | .map es ak,o=>∃l,o= .map l ak/\ak=es.length/\jy ρ es l.toList 0
 | .mH es,o=>∃l ak,o= .map l ak/\jY es/\rQ l.toList ak/\uU ρ es l.toList
 | .loop st fV fn tmps nt params assign body defers,o=>∃a b M,o= .loop {state:=st,pending:=fV,fn,tmps:=a,params:=params.toArray,assign,body,defers:=b}/\TR ρ nt tmps a/\nt<=top/\ρ defers=some (b,M)/\yP fV assign body
 | .defs,o=>o= .deferred (some [])
 | .ro n t,o=>∃c e fr,o= .cells c e fr/\c.size=N/\n=N/\∀i,i<n->∃x v,t.get i=some x/\x.ct=true/\c[i]? =some v/\VR ρ x v
 | .pR n t,o=>∃c e fr,o= .cells c e fr/\∀i,i<n->∃x v,t.get i=some x/\x.ct=true/\c[N+i]? =some v/\VR ρ x v
 | .LO s pos,o=>o= .stringIter s pos
 | .iter m _ _ _ _,o=>∃b M c s,ρ m=some (b,M)/\o= .mapIter (some b) c s c
 | .sk,o=>∃l ak,o= .map l ak
theorem OR.mono{ρ σ:Ren}(h:ρ.le σ){N:Nat}{x:aE}{o:Obj}(k:OR ρ N x o):OR σ N x o:=by
 cases x<;>simp only[OR] at k ⊢
 case cells n t z=>
  obtain⟨c,e,r,s,u,f⟩:=k
  exact⟨c,e,r,s,u,fun i hi=>let ⟨x,v,a,b,d,q⟩:=f i hi;⟨x,v,a,b,d,VR.mono h _ _ q⟩⟩
 case map es ak=>obtain⟨l,r,c,s⟩:=k;exact⟨l,r,c,jy.mono h _ _ _ s⟩
 case mH es=>obtain⟨l,c,r,a,b,s⟩:=k;exact⟨l,c,r,a,b,s.mono h⟩
 case loop st fV fn tmps nt params assign body defers=>obtain⟨a,b,M,r,s,q,u,v⟩:=k;exact⟨a,b,M,r,s.mono h,q,h _ _ u,v⟩
 case defs=>exact k
 case ro n t=>
  obtain⟨c,e,q,r,s,u,f⟩:=k
  exact⟨c,e,q,r,s,u,fun i hi=>let ⟨x,v,a,b,d,q⟩:=f i hi;⟨x,v,a,b,d,VR.mono h _ _ q⟩⟩
 case pR n t=>
  obtain⟨c,e,q,r,f⟩:=k
  exact⟨c,e,q,r,fun i hi=>let ⟨x,v,a,b,d,q⟩:=f i hi;⟨x,v,a,b,d,VR.mono h _ _ q⟩⟩
 case LO s pos=>exact k
 case iter m es ex left cur=>obtain⟨b,M,c,s,r,q⟩:=k;exact⟨b,M,c,s,h _ _ r,q⟩
 case sk=>exact k
def o4(ρ:Ren)(w:World)(n m:Nat)(es:List (AV×AV))(exact:Bool)(left:List (AV×AV))(cur:Option (AV×AV)):Prop:=
  ∃ b N bm M l ak seen,ρ n=some (b,N)/\ρ m=some (bm,M)/\w.heap[b]? =some (.mapIter (some bm) ak seen ak)/\w.heap[bm]? =some (.map l ak)/\
    rQ l.toList ak/\(exact=true->ak=es.length/\jy ρ es l.toList 0)/\(exact=false->jY es/\uU ρ es l.toList)/\
    uU ρ left (l.toList.filter fun e=> !seen.contains e.born)/\
    (match cur with
    |none=>seen= #[]
    |some x=>∃e,e∈l.toList/\seen.back?=some e.born/\VR ρ x.1 e.key/\VR ρ x.2 e.val)
theorem o4.mono{ρ σ:Ren}(h:ρ.le σ){w:World}{m:Nat}{es:List (AV×AV)}{ex:Bool}{left:List (AV×AV)}{cur:Option (AV×AV)}(k:o4 ρ w n m es ex left cur):o4 σ w n m es ex left cur:=by
 obtain⟨b,N,bm,M,l,ak,seen,h1,h2,h3,h4,h5,h6,h7,h8,h9⟩:=k
 refine⟨b,N,bm,M,l,ak,seen,h _ _ h1,h _ _ h2,h3,h4,h5,fun e=>⟨(h6 e).1,(h6 e).2.mono h⟩,fun e=>⟨(h7 e).1,(h7 e).2.mono h⟩,h8.mono h,?_⟩
 cases cur with
 |none=>exact h9
 |some x=>obtain⟨e,a,b,c,d⟩:=h9;exact⟨e,a,b,VR.mono h _ _ c,VR.mono h _ _ d⟩
structure aZ where
 may:Nat->Prop
 F:Nat->Option (List AV)
 dN:Nat->Prop
def MR(W:World):aZ:=⟨fun k=>W.heap.size<=k,fun _=>none,fun _=>True⟩
def re(ρ:Ren)(h:Tr aE)(b:Nat):Prop:=∀m o N,m<top->h.get m=some o->o.du=false->ρ m≠some (b,N)
def iS(ρ:Ren):Ren:=fun k=>if top<=k then ρ k else none
theorem BR(ρ:Ren):(iS ρ).le ρ:=by
 intro k x e
 unfold iS at e
 split at e
 ·exact e
 ·cases e
theorem Lc{ρ σ:Ren}(h:ρ.le σ):(iS ρ).le (iS σ):=by
 intro k x e
 unfold iS at e ⊢
 split at e
 ·rename_i q;rw[if_pos q];exact h _ _ e
 ·cases e
def Fz(B:aZ)(ρ:Ren)(h:Tr aE)(w:World):Prop:=
 ∀n b sh,ρ (hn n b sh)≠none->(B.dN (hn n b sh)\/B.may b)/\∃l c e fr,B.F n=some l/\w.heap[b]? =some (.cells c e fr)/\re ρ h b/\∀i x,l[i]? =some x->∃v,c[sh+i]? =some v/\VR (iS ρ) x v/\x.ct=true
structure Rel (B:aZ) (ρ:Ren) (h:Tr aE) (w:World):Prop where
 is:∀n o,n<top->h.get n=some o->∃b N o',ρ n=some (b,N)/\w.heap[b]? =some o'/\OR ρ N o o'/\(o.du=false->B.may b)
 one:∀n m o p b N M,n<top->m<top->h.get n=some o->h.get m=some p->(o.du=false\/p.du=false)->ρ n=some (b,N)->ρ m=some (b,M)->n=m
 iter:∀n m es ex left cur,n<top->h.get n=some (.iter m es ex left cur)->m<top/\h.get m=some .sk/\o4 ρ w n m es ex left cur
 size:∀k,w.heap.size<=k->B.may k
 lone:∀i j m es ex left cur kj mo lJ lM,i<top->j<top->h.get i=some (.iter m es ex left cur)->h.get j=some (.iter m kj mo lJ lM)->i=j
 fz:Fz B ρ h w
end Go.Rn
namespace Go.Rn
variable {α β:Type}
structure AS where
 h:Tr aE
 nx:Nat
 mark:Nat
 rd:List Nat
 wr:List Nat
inductive R (α:Type) where
 |bad
 |ok (a:α) (s:AS)
def M(α:Type):Type:=AS->R α
noncomputable def M.pure(a:α):M α:=fun s=>.ok a s
noncomputable def M.bind(m:M α)(f:α->M β):M β:=fun s=> @R.rec α (fun _=>R β) .bad (fun a s1=>f a s1) (m s)
noncomputable instance:Monad M where
 pure:=M.pure
 bind:=M.bind
noncomputable def fail:M α:=fun _=>.bad
noncomputable def lift(o:Option α):M α:=fun s=> @Option.rec α (fun _=>R α) .bad (fun a=>.ok a s) o
noncomputable def bh(o:Option α)(f:α->M β):M β:=fun s=> @Option.rec α (fun _=>R β) .bad (fun a=>f a s) o
noncomputable def lq(b:Bool):M Unit:=fun s=> @Bool.rec (fun _=>R Unit) .bad (.ok () s) b
noncomputable def bC(b:Bool)(m:M β):M β:=fun s=> @Bool.rec (fun _=>R β) .bad (m s) b
noncomputable def forced(n:Nat)(k:Nat->α):α:= @Nat.rec (fun _=>α) (k 0) (fun m _=>k (m+1)) n
theorem rI(n:Nat)(k:Nat->α):forced n k=k n:=by cases n<;>rfl
noncomputable def di(n:Nat):M aE:=fun s=>
 @AS.rec (fun _=>R aE) (fun h nx mark rd wr=>
  @Bool.rec (fun _=>R aE) .bad
   (@Option.rec aE (fun _=>R aE) .bad
    (fun o=> @Bool.rec (fun _=>R aE) (.ok o ⟨h,nx,mark,rd,wr⟩) (.ok o ⟨h,nx,mark,n::rd,wr⟩) (Nat.blt n mark))
    (h.get n))
   (Nat.blt n nx)) s
noncomputable def dy(n:Nat)(o:Option aE):M Unit:=fun s=>
  @AS.rec (fun _=>R Unit) (fun h nx mark rd wr=>
    @Bool.rec (fun _=>R Unit) .bad
      (@Option.rec aE (fun _=>R Unit) .bad
        (fun p=> @Bool.rec (fun _=>R Unit)
          (@Bool.rec (fun _=>R Unit) (.ok () ⟨h.put n o,nx,mark,rd,wr⟩) (.ok () ⟨h.put n o,nx,mark,n::rd,n::wr⟩) (Nat.blt n mark))
          .bad p.du)
        (h.get n))
      (and (Nat.blt n nx) (Nat.blt n top))) s
noncomputable def gR(o:aE):M Nat:=fun s=>
 @AS.rec (fun _=>R Nat) (fun h nx mark rd wr=>
  @Bool.rec (fun _=>R Nat) .bad (forced nx fun m=>.ok m ⟨h.put m (some o),m+1,mark,rd,wr⟩) (Nat.blt nx top)) s
end Go.Rn
namespace Go.Rn
noncomputable section
def yQ:Value->Option AV
  | .bool b=>some (.bool b)
  | .int k n=>some (.int k n)
  | .string s=>some (.str s)
  | .pointer none=>some (.ptr none)
  | .slice none len cap=>match Nat.beq len 0&&Nat.beq cap 0 with
    |true=>some (.slice none 0 (.known 0))
    |false=>none
  | .map none=>some (.map none)
  | .nilFunc=>some .nilFunc
  | .nilIface=>some .nilIface
  |_=>none
def qz:List Value->Option (List AV)
  |[]=>some []
  | v ::l=>match yQ v with
    |none=>none
    | some x=>match qz l with
      |none=>none
      |some r=>some (x::r)
def ofValue:Value->Option AV
  | .agg cs=>match qz cs.toList with
    |none=>none
    |some l=>some (.agg l)
  | .tuple cs=>match qz cs.toList with
    |none=>none
    |some l=>some (.tuple l)
  |v=>yQ v
def fb:Nat:=256
def aR(t:Tr AV)(x:Operand):Option AV:=
 @Operand.rec (fun _=>Option AV) (fun i=>t.get i) (fun v=>ofValue v) (fun g=> @Bool.rec (fun _=>Option AV) none (some (.ptr (some (g,0)))) (Nat.blt g fb)) (fun f=>some (.func (.func f) [] [])) x
def dG(P:Program)(t:TypeId):Option Nat:=
 match P.info? t with
 |none=>none
 |some i=>some i.size
def ma(P:Program)(t:TypeId):Option AV:=
  match P.info? t with
  |none=>none
  | some i=>match i.zero with
    |none=>none
    |some v=>ofValue v
def mU(P:Program)(t:TypeId):Option Bool:=
 match P.underlying t with
 |some (.struct _)=>some true
 |some (.array _ _)=>some true
 |some _=>some false
 |none=>none
def jJ(t:Tr AV)(z:List AV):Nat->Nat->Option (List AV)
  |0,_=>some []
  | k +1,off=>match cellAt t z off with
    |none=>none
    | some v=>match jJ t z k (off+1) with
      |none=>none
      |some l=>some (v::l)
def iU(n off:Nat):Nat->M (List AV)
  |0=>M.pure []
  | k+1=>(di n).bind fun o=>match o with
    | .cells m t z=>bC (Nat.ble (off+(k+1)) m) <| lift (jJ t z (k+1) off)
    | .ro m t=>bC (Nat.ble (off+(k+1)) m) <| lift (jJ t [] (k+1) off)
    |_=>fail
def lX(n off:Nat)(l:List AV):M Unit:=
  match l with
  |[]=>M.pure ()
  | x ::r=>(di n).bind fun o=>match o with
    | .cells m t z=>bC (and (Nat.ble (off+(r.length+1)) m) (and (Nat.ble m top) ((x::r).all AV.ct))) <|
      dy n (some (.cells m (Tr.fill (x::r) off t) z))
    |_=>fail
def newRow(l:List AV):M Nat:=
 bC (and (Nat.ble l.length top) (l.all AV.ct)) <| gR (.cells l.length (Tr.fill l 0 .nil) [])
def one:List AV->Option AV
 |[v]=>some v
 |_=>none
def loadVar(P:Program)(t:TypeId)(n off:Nat):M AV:=
  bh (mU P t) fun ag=>match ag with
    |true=>bh (dG P t) fun k=>(iU n off k).bind fun l=>M.pure (.agg l)
    |false=>(iU n off 1).bind fun l=>lift (one l)
def storeVar(P:Program)(t:TypeId)(n off:Nat)(v:AV):M Unit:=
 bh (dG P t) fun k=>bC (Nat.beq v.cells.length k) <| lX n off v.cells
def addrOf:AV->Option (Nat×Nat)
 | .ptr (some a)=>some a
 |_=>none
def intOf:AV->Option Int
 | .int _ n=>some n
 |_=>none
def tO:AV->Option Bool
 | .bool b=>some b
 |_=>none
def j9(P:Program)(t:TypeId)(cs:List AV)(off:Nat):Option AV:=
  match mU P t with
  |none=>none
  | some true=>match dG P t with
    |none=>none
    |some k=>some (.agg ((cs.drop off).take k))
  |some false=>cs[off]?
def setCells:List AV->List AV->Nat->List AV
 |cs,[],_=>cs
 |cs,c::l,off=>setCells (cs.set off c) l (off+1)
def qE(place:Nat->Option (Nat×Nat)):List AV->List (Nat×AV)->Option (List AV)
  |cells,[]=>some cells
  | cells,(i,v)::rest=>match place i with
    |none=>none
    | some (off,size)=>
      match Nat.beq v.cells.length size&&Nat.ble (off+v.cells.length) cells.length with
      |false=>none
      |true=>qE place (setCells cells v.cells off) rest
def iv(ev:Operand->Option AV):List Operand->Option (List AV)
  |[]=>some []
  | x ::l=>match ev x with
    |none=>none
    | some v=>match iv ev l with
      |none=>none
      |some r=>some (v::r)
def pS(ev:Operand->Option AV):List (Nat×Operand)->Option (List (Nat×AV))
  |[]=>some []
  | (i,x)::l=>match ev x with
    |none=>none
    | some v=>match pS ev l with
      |none=>none
      |some r=>some ((i,v)::r)
def tA(P:Program):List Field->Option (List (Nat×Nat))
  |[]=>some []
  | f ::l=>match dG P f.type with
    |none=>none
    | some k=>match tA P l with
      |none=>none
      |some r=>some ((f.offset,k)::r)
def build(P:Program)(t:TypeId)(parts:List (Nat×AV)):Option AV:=
  match ma P t with
  |none=>none
  | some z=>match P.underlying t with
    | some (.struct fs)=>match tA P fs.toList with
      |none=>none
      | some pl=>match qE (fun i=>pl[i]?) z.cells parts with
        |none=>none
        |some l=>some (.agg l)
    | some (.array _ e)=>match dG P e with
      |none=>none
      | some k=>match qE (fun i=>some (i*k,k)) z.cells parts with
        |none=>none
        |some l=>some (.agg l)
    |_=>none
def vT:Nat->List AV->List AV
 |0,_=>[]
 |n+1,z=>z++vT n z
def buildSlice(P:Program)(t:TypeId)(len:Nat)(parts:List (Nat×AV)):M AV:=do
  match P.underlying t with
  | some (.slice e)=>do
    let k ←lift (dG P e)
    let z ←lift (ma P e)
    lq (Nat.ble (len*k) 1048576&&Nat.beq z.cells.length k)
    let l ←lift (qE (fun i=>some (i*k,k)) (vT len z.cells) parts)
    let r ←newRow l
    pure (.slice (some (r,0)) len (.known len))
  |_=>fail
def fieldAddr(P:Program)(s:TypeId)(x:AV)(field:Nat):Option AV:=
  match P.underlying s with
  | some (.struct fs)=>match fs[field]? with
    |none=>none
    | some f=>match dG P f.type with
      |none=>none
      | some k=>match Nat.beq k 0 with
        |true=>none
        | false=>match x with
          | .ptr (some (n,o))=>some (.ptr (some (n,o+f.offset)))
          | .kc n o=>some (.kc n (o+f.offset))
          |_=>none
  |_=>none
def aek(P:Program)(s:TypeId)(x:AV)(field:Nat):Option AV:=
  match P.underlying s,x with
  | some (.struct fs),.agg cs=>match fs[field]? with
    |none=>none
    |some f=>j9 P f.type cs f.offset
  |_,_=>none
def within(i:Int)(len:Nat):Option Nat:=
  match i with
  | .ofNat n=>match Nat.blt n len with
    |true=>some n
    |false=>none
  | .negSucc _=>none
def indexAddr(P:Program)(t:TypeId)(x ix:AV):Option AV:=
  match intOf ix with
  |none=>none
  | some i=>match P.underlying t,x with
    | some (.array len e),.ptr (some (n,o))=>match within i len,dG P e with
      |some j,some k=>some (.ptr (some (n,o+j*k)))
      |_,_=>none
    | some (.slice e),.slice (some (n,o)) len _=>match within i len,dG P e with
      |some j,some k=>some (.ptr (some (n,o+j*k)))
      |_,_=>none
    | some (.slice e),.ae n o len=>match within i len,dG P e with
      |some j,some k=>some (.kc n (o+j*k))
      |_,_=>none
    |_,_=>none
def indexOf(P:Program)(t:TypeId)(x ix:AV):Option AV:=
  match intOf ix with
  |none=>none
  | some i=>match P.underlying t,x with
    | some (.array len e),.agg cs=>match within i len,dG P e with
      |some j,some k=>j9 P e cs (j*k)
      |_,_=>none
    | some .string,.str s=>match within i s.size with
      | some j=>match s.data.toList[j]? with
        |some b=>some (.int .u8 b.toNat)
        |none=>none
      |none=>none
    |_,_=>none
def bound(x:Option AV)(pb Z8:Nat):Option Nat:=
  match x with
  |none=>some Z8
  | some v=>match intOf v with
    |none=>none
    |some i=>within i (pb+1)
def opt(ev:Operand->Option AV):Option Operand->Option (Option AV)
  |none=>some none
  | some x=>match ev x with
    |none=>none
    |some v=>some (some v)
def oV(len:Nat)(c:kT):Nat:=
 match c with
 | .known c=>c
 | .aX lo _=>lo
 | .lost=>len
def slice3(k:Nat)(a:Option (Nat×Nat))(low:Nat)(lo hi:Option AV)(mx:AV):Option AV:=
  match bound (some mx) low 0 with
  |none=>none
  | some m=>match hi with
    |none=>none
    | some hi=>match bound (some hi) m 0 with
      |none=>none
      | some h=>match bound lo h 0 with
        |none=>none
        | some l=>match a with
          |none=>some (.slice none (h - l) (.known (m - l)))
          | some (n,o)=>match Nat.beq m l with
            |true=>some (.slice (some (n,o)) (h - l) (.known (m - l)))
            |false=>some (.slice (some (n,o+l*k)) (h - l) (.known (m - l)))
def wc(P:Program)(t:TypeId)(x:AV)(lo hi mx:Option AV):Option AV:=
  match P.underlying t,x with
  | some .string,.str s=>match mx with
    |some _=>none
    | none=>match bound hi s.size s.size with
      |none=>none
      | some h=>match bound lo h 0 with
        |none=>none
        |some l=>some (.str (s.extract l h))
  | some (.slice e),.slice a len cap=>
    match dG P e with
    |none=>none
    | some k=>
      match mx with
      | some mx=>match cap with
        | .lost=>none
        |cap=>slice3 k a (oV len cap) lo hi mx
      | none=>
        match bound hi (oV len cap) len with
        |none=>none
        | some h=>match bound lo h 0 with
          |none=>none
          | some l=>match a,cap with
            |none,.known c=>some (.slice none (h - l) (.known (c - l)))
            |none,_=>none
            | some (n,o),.known c=>match Nat.beq c l with
              |true=>some (.slice (some (n,o)) (h - l) (.known (c - l)))
              |false=>some (.slice (some (n,o+l*k)) (h - l) (.known (c - l)))
            | some (n,o),.aX b e=>match Nat.beq l 0 with
              |true=>some (.slice (some (n,o)) (h - l) (.aX b e))
              | false=>match Nat.beq e k&&Nat.blt l b with
                |true=>some (.slice (some (n,o+l*k)) (h - l) (.aX (b - l) e))
                | false=>match Nat.beq (h - l) 0 with
                  |true=>some (.slice (some (n,o)) 0 .lost)
                  |false=>none
            | some (n,o),.lost=>match Nat.beq h 0 with
              |true=>some (.slice (some (n,o)) 0 .lost)
              |false=>none
  | some (.slice e),.ae n o len=>match dG P e with
    |none=>none
    | some k=>match mx with
      |some _=>none
      | none=>match bound hi len len with
        |none=>none
        | some h=>match bound lo h 0 with
          |none=>none
          | some l=>match Nat.ble top n with
            |true=>some (.ae n (o+l*k) (h - l))
            |false=>none
  | some (.array len e),.ptr (some (n,o))=>
    match dG P e with
    |none=>none
    | some k=>match mx with
      |some _=>none
      | none=>match bound hi len len with
        |none=>none
        | some h=>match bound lo h 0 with
          |none=>none
          | some l=>match Nat.beq len l with
            |true=>some (.slice (some (n,o)) (h - l) (.known (len - l)))
            |false=>some (.slice (some (n,o+l*k)) (h - l) (.known (len - l)))
  |_,_=>none
def room:Nat:=140737488355328
def makeSlice(P:Program)(t:TypeId)(len cap:AV):M AV:=
  match P.underlying t with
  | some (.slice e)=>
    bh (intOf len) fun l=>bh (intOf cap) fun c=>bh (P.info? e) fun i=>bh (within c room) fun c=>bh (within l (c+1)) fun l=>bh (ma P e) fun z=>
    bC (and (Nat.ble (c*i.bytes) room) (and (Nat.ble (c*i.size) top) (and (or (Nat.beq (c*i.size) 0) (not (Nat.beq z.cells.length 0))) (z.cells.all AV.ct)))) <|
    (gR (.cells (c*i.size) .nil z.cells)).bind fun r=>M.pure (.slice (some (r,0)) l (.known c))
  |_=>fail
def A7(s:ByteArray):List AV:=s.data.toList.map fun b=>.int .u8 b.toNat
def firstCells(size n:Nat):AV->M (List AV)
 | .slice (some _) 0 .lost=>bC (Nat.beq n 0) <| M.pure []
 | .slice (some (m,o)) _ _=>iU m o (n*size)
 | .slice none _ _=>M.pure []
 | .str s=>M.pure ((A7 s).take n)
 |_=>fail
def lenOf:AV->Option Nat
 | .slice _ n _=>some n
 | .str s=>some s.size
 |_=>none
def grown(size bytes kF:Nat)(dN new:List AV):M AV:=
 bC (and (Nat.ble (2*kF*bytes+4096*bytes) room) (not (Nat.beq bytes 0))) <|
 (newRow (dN++new)).bind fun r=>M.pure (.slice (some (r,0)) kF (.aX kF size))
def qo(n off:Nat)(l:List AV):M Unit:=
  match l with
  |[]=>M.pure ()
  | x ::r=>(di n).bind fun o=>match o with
    | .cells m t z=>bC (and (Nat.ble off m) (and (Nat.ble (max m (off+(r.length+1))) top) ((x::r).all AV.ct))) <|
      dy n (some (.cells (max m (off+(r.length+1))) (Tr.fill (x::r) off t) z))
    |_=>fail
def aE.rM:aE->Bool
 | .cells _ _ _=>true
 |_=>false
def qv(i:TypeInfo):Bool:=
 match i.zero with
 |none=>false
 |some v=>Nat.beq v.cells.size i.size
def rJ(size bytes:Nat)(base:Option (Nat×Nat))(len:Nat)(cap:kT)(n:Nat)(new:List AV):M AV:=
  match cap with
  | .known c=>match Nat.ble (len+n) c with
    | true=>(match base with
      |some (m,o)=>lX m (o+len*size) new
      |none=>M.pure ()).bind fun _=>M.pure (.slice base (len+n) (.known c))
    |false=>(firstCells size len (.slice base len (.known c))).bind fun dN=>grown size bytes (len+n) dN new
  | .aX lo sz=>bC (Nat.beq sz size) <| match Nat.ble (len+n) lo with
    | true=>match base with
      |some (m,o)=>(qo m (o+len*size) new).bind fun _=>M.pure (.slice (some (m,o)) (len+n) (.aX lo sz))
      |none=>fail
    | false=>match base with
      |some (m,0)=>(iU m 0 (len*size)).bind fun dN=>(di m).bind fun o=>bC o.rM <| (dy m none).bind fun _=>grown size bytes (len+n) dN new
      |_=>fail
  | .lost=>fail
def nG(P:Program)(t:Option TypeId):Bool:=
  match t with
  |none=>true
  | some t=>match P.underlying t with
    |some (.int _)=>false
    |some _=>true
    |none=>false
def pH(P:Program)(argTypes:Array TypeId)(s x:AV):M AV:=
  bh argTypes[0]? fun t=>match P.underlying t,s with
  | some (.slice e),.slice base len cap=>
    bh (P.info? e) fun i=>bC (and (qv i) (nG P argTypes[1]?)) <| bh (lenOf x) fun n=>(firstCells i.size n x).bind fun new=>
    bC (Nat.beq new.length (n*i.size)) <| rJ i.size i.bytes base len cap n new
  |_,_=>fail
def U1:AV->Bool
 | .slice _ _ .lost=>false
 |_=>true
def rR(P:Program)(argTypes:Array TypeId)(d x:AV):M AV:=
  bh argTypes[0]? fun t=>match P.underlying t,d with
  | some (.slice e),.slice base len cap=>
    bh (dG P e) fun k=>bh (lenOf x) fun m=>bC (U1 (.slice base len cap)) <| (firstCells k (Nat.min m len) x).bind fun cells=>
    (match base with
    |some (r,o)=>lX r o cells
    |none=>M.pure ()).bind fun _=>M.pure (.int .i64 (Nat.min m len:Nat))
  |_,_=>fail
def eqFields(P:Program)(eq:TypeId->AV->AV->Option Bool)(xs ys:List AV):List Field->Option Bool
  |[]=>some true
  | f ::l=>match f.name == "_" with
    |true=>eqFields P eq xs ys l
    | false=>match j9 P f.type xs f.offset,j9 P f.type ys f.offset with
      | some a,some b=>match eq f.type a b with
        |none=>none
        |some false=>some false
        |some true=>eqFields P eq xs ys l
      |_,_=>none
def yz(P:Program)(eq:TypeId->AV->AV->Option Bool)(t:TypeId)(k:Nat)(xs ys:List AV):Nat->Nat->Option Bool
  |0,_=>some true
  | n +1,i=>match j9 P t xs (i*k),j9 P t ys (i*k) with
    | some a,some b=>match eq t a b with
      |none=>none
      |some false=>some false
      |some true=>yz P eq t k xs ys n (i+1)
    |_,_=>none
def jz(P:Program):Nat->TypeId->AV->AV->Option Bool
  |0,_,_,_=>none
  | d +1,t,x,y=>
    match P.underlying t,x,y with
    |some .bool,.bool a,.bool b=>some (a == b)
    | some (.int _),.int k a,.int k' b=>match decide (k=k') with
      |true=>some (a == b)
      |false=>none
    |some .string,.str a,.str b=>some (a == b)
    |some (.pointer _),.ptr none,.ptr b=>some b.isNone
    |some (.pointer _),.ptr (some _),.ptr none=>some false
    |some (.interface _),.nilIface,.nilIface=>some true
    |some (.interface _),.nilIface,.iface _ _=>some false
    |some (.interface _),.iface _ _,.nilIface=>some false
    | some (.struct fs),.agg xs,.agg ys=>match P.stoodInHeld t with
      |true=>none
      |false=>eqFields P (jz P d) xs ys fs.toList
    | some (.array n e),.agg xs,.agg ys=>match dG P e with
      |none=>none
      |some k=>yz P (jz P d) e k xs ys n 0
    |some (.slice _),.slice none _ _,.slice b _ _=>some b.isNone
    |some (.slice _),.slice (some _) _ _,.slice none _ _=>some false
    |some (.map _ _),.map none,.map b=>some b.isNone
    |some (.map _ _),.map (some _),.map none=>some false
    |some (.func _ _ _),.nilFunc,.nilFunc=>some true
    |some (.func _ _ _),.nilFunc,.func _ _ _=>some false
    |some (.func _ _ _),.func _ _ _,.nilFunc=>some false
    |_,_,_=>none
def isConst:Operand->Bool
 | .const _=>true
 |_=>false
def EC(P:Program)(t:TypeId)(x y:Operand)(a b:AV):Bool:=
 match a,b with
 | .nilIface,.nilIface=>isConst x||isConst y
 | .agg _,.agg _=> !P.eqGuardType P.depth t
 |_,_=>true
def sb(op:BinOp)(k:IntKind)(a b:Int):Option AV:=
  match op with
  | .add=>some (.int k (k.wrap (a+b)))
  | .sub=>some (.int k (k.wrap (a - b)))
  | .mul=>some (.int k (k.wrap (a*b)))
  | .quo=>match decide (b=0) with
    |true=>none
    |false=>some (.int k (k.wrap (a.tdiv b)))
  | .rem=>match decide (b=0) with
    |true=>none
    |false=>some (.int k (a.tmod b))
  | .and=>some (.int k (k.wrap (BitVec.ofInt k.bits a&&& BitVec.ofInt k.bits b).toNat))
  | .or=>some (.int k (k.wrap (BitVec.ofInt k.bits a|||BitVec.ofInt k.bits b).toNat))
  | .xor=>some (.int k (k.wrap (BitVec.ofInt k.bits a ^^^ BitVec.ofInt k.bits b).toNat))
  | .andNot=>some (.int k (k.wrap (BitVec.ofInt k.bits a&&& ~~~BitVec.ofInt k.bits b).toNat))
  | .eql=>some (.bool (a == b))
  | .neq=>some (.bool (a != b))
  | .lss=>some (.bool (a<b))
  | .leq=>some (.bool (a<=b))
  | .gtr=>some (.bool (a>b))
  | .geq=>some (.bool (a>=b))
  |_=>none
def BB(op:BinOp)(k:IntKind)(x y:Int):Option AV:=
  match decide (y<0) with
  |true=>none
  | false=>match op with
    | .shl=>some (.int k (k.wrap (x*2 ^ min y.toNat k.bits)))
    | .shr=>some (.int k (x.fdiv (2 ^ min y.toNat k.bits)))
    |_=>none
def Gf(op:BinOp)(x y:ByteArray):Option AV:=
  match op with
  | .add=>match Nat.ble (x.size+y.size) room with
    |true=>some (.str (x++y))
    |false=>none
  | .eql=>some (.bool (x.toList == y.toList))
  | .neq=>some (.bool (!(x.toList == y.toList)))
  | .lss=>some (.bool (Op.bytesLess x.toList y.toList))
  | .leq=>some (.bool (Op.bytesLess x.toList y.toList||x.toList == y.toList))
  | .gtr=>some (.bool (!(Op.bytesLess x.toList y.toList||x.toList == y.toList)))
  | .geq=>some (.bool (!Op.bytesLess x.toList y.toList))
  |_=>none
def nD:BinOp->Bool
 | .shl| .shr=>true
 |_=>false
def mI(P:Program)(op:BinOp)(t:TypeId)(x y:AV):Option AV:=
  match x,y with
  | .int k a,.int k' b=>match nD op with
    |true=>BB op k a b
    | false=>match decide (k=k') with
      |true=>sb op k a b
      |false=>none
  | .str a,.str b=>Gf op a b
  | x,y=>match op with
    | .eql=>match jz P Op.maxDepth t x y with
      |none=>none
      |some b=>some (.bool b)
    | .neq=>match jz P Op.maxDepth t x y with
      |none=>none
      |some b=>some (.bool !b)
    |_=>none
def NA(op:UnOp)(x:AV):Option AV:=
 match op,x with
 | .neg,.int k n=>sb .sub k 0 n
 | .xor,.int k n=>sb .xor k (match k.signed with|true=> -1|false=>k.max) n
 | .not,.bool b=>some (.bool !b)
 |_,_=>none
def EZ(P:Program)(src dst:TypeId)(x:AV):Option AV:=
 match P.underlying src,P.underlying dst,x with
 |some _,some (.int k),.int _ n=>some (.int k (k.wrap n))
 |some _,some .string,.str s=>some (.str s)
 |_,_,_=>none
def plainKey(P:Program)(t:TypeId)(key:AV):Bool:=
 match P.underlying t,key with
 |some (.int _),.int _ _=>true
 |some .string,.str _=>true
 |some .bool,.bool _=>true
 |_,_=>false
def jZ(key:AV):List (AV×AV)->Nat->Option (Option (Nat×AV))
  |[],_=>some none
  | (k,v)::l,i=>match sameKey key k with
    |none=>none
    |some true=>some (some (i,v))
    |some false=>jZ key l (i+1)
def ym(P:Program)(t:TypeId)(key:AV):List (AV×AV)->Nat->Option (Option (Nat×AV))
  |[],_=>some none
  | (k,v)::l,i=>match jz P Op.maxDepth t key k with
    |none=>none
    |some true=>some (some (i,v))
    |some false=>ym P t key l (i+1)
def po:AV->Bool
 | .w9 _=>false
 |_=>true
def findKey(P:Program)(t:TypeId)(key:AV)(es:List (AV×AV)):Option (Option (Nat×AV)):=
  match po key with
  |false=>none
  | true=>match plainKey P t key with
    |true=>jZ key es 0
    |false=>ym P t key es 0
def yh(P:Program)(ig:TypeId->AV->Bool)(cs:List AV):List Field->Bool
  |[]=>true
  | f ::l=>match f.name == "_" with
    |true=>yh P ig cs l
    | false=>match j9 P f.type cs f.offset with
      |none=>false
      | some a=>match ig f.type a with
        |true=>yh P ig cs l
        |false=>false
def lK(P:Program):Nat->TypeId->AV->Bool
  |0,_,_=>false
  | d+1,t,x=>match P.underlying t,x with
    |some .bool,_=>true
    |some (.int _),_=>true
    |some .string,_=>true
    |some (.struct fs),.agg cs=>yh P (lK P d) cs fs.toList
    |_,_=>false
def rS(r:Nat):M (List (AV×AV)):=do
 match ←di r with
 | .map es _=>pure es
 | .mH es=>pure es
 |_=>fail
def short:List (AV×AV)->Bool
 |[]=>true
 |[_]=>true
 |_=>false
def rT(P:Program)(k:TypeId)(key x:AV):M (List (AV×AV)):=
  match x with
  | .map none=>M.pure []
  | .map (some r)=>(di r).bind fun o=>match o with
    | .map es _=>M.pure es
    | .mH es=>bC (or (plainKey P k key) (short es)) <| M.pure es
    |_=>fail
  |_=>fail
def sI(ok:Bool)(v:AV)(b:Bool):AV:=
 match ok with
 |true=>.tuple [v,.bool b]
 |false=>v
def rN(P:Program)(t:TypeId)(x key:AV)(ok:Bool):M AV:=
  match P.underlying t with
  | some (.map k e)=>(rT P k key x).bind fun es=>bC (lK P 10000 k key) <| bh (findKey P k key es) fun f=>match f with
    |some q=>M.pure (sI ok q.2 true)
    |none=>bh (ma P e) fun z=>M.pure (sI ok z false)
  |_=>fail
def we:List AV->List AV->Bool
  |[],[]=>true
  | x::xs,y::ys=>match sameKey x y with
    |some true=>we xs ys
    |_=>false
  |_,_=>false
def sameBits:AV->AV->Bool
  | .agg xs,.agg ys=>we xs ys
  | x,y=>match sameKey x y with
    |some true=>true
    |_=>false
def putAt:List (AV×AV)->Nat->AV->AV->List (AV×AV)
 |[],_,_,_=>[]
 |_::l,0,k,v=>(k,v)::l
 |x::l,i+1,k,v=>x::putAt l i k v
def tX(r:Nat)(key val:AV)(es:List (AV×AV))(ak:Nat)(f:Option (Nat×AV)):M Unit:=
 match f with
 |some q=>bh es[q.1]? fun dN=>bC (sameBits dN.1 key) <| dy r (some (.map (putAt es q.1 key val) ak))
 |none=>dy r (some (.map (es++[(key,val)]) (ak+1)))
def vU(r:Nat)(key val:AV)(es:List (AV×AV))(f:Option (Nat×AV)):M Unit:=
 match f with
 |some q=>dy r (some (.mH (putAt es q.1 key val)))
 |none=>dy r (some (.mH (es++[(key,val)])))
def qF(P:Program)(t:TypeId)(m key val:AV):M Unit:=
  match P.underlying t,m with
  | some (.map k _),.map (some r)=>(di r).bind fun o=>match o with
    | .map es ak=>bC (lK P 10000 k key) <| bh (findKey P k key es) fun f=>tX r key val es ak f
    | .mH es=>bC (and (plainKey P k key) (lK P 10000 k key)) <| bh (findKey P k key es) fun f=>vU r key val es f
    |_=>fail
  |_,_=>fail
def sl(P:Program)(argTypes:Array TypeId)(x:AV):M AV:=do
  let t ←lift argTypes[0]?
  match P.underlying t,x with
  |some .string,.str s=>pure (.int .i64 s.size)
  |some .string,.w9 n=>pure (.int .i64 n)
  |some (.array n _),_=>pure (.int .i64 n)
  | some (.pointer a),_=>match P.underlying a with
    |some (.array n _)=>pure (.int .i64 n)
    |_=>fail
  |some (.slice _),.slice _ n _=>pure (.int .i64 n)
  |some (.slice _),.ae _ _ n=>pure (.int .i64 n)
  |some (.map _ _),.map none=>pure (.int .i64 0)
  | some (.map _ _),.map (some r)=>do
    let es ←rS r
    pure (.int .i64 es.length)
  |_,_=>fail
def min2:AV->AV->Option AV
 | .int k x,.int _ y=>some (.int k (match decide (y<x) with|true=>y|false=>x))
 |_,_=>none
def max2:AV->AV->Option AV
 | .int k x,.int _ y=>some (.int k (match decide (y>x) with|true=>y|false=>x))
 |_,_=>none
def wA(f:AV->AV->Option AV):List AV->AV->Option AV
  |[],x=>some x
  | y::l,x=>match f x y with
    |none=>none
    |some z=>wA f l z
def rU(P:Program)(argTypes:Array TypeId)(x:AV):M AV:=do
  let t ←lift argTypes[0]?
  match P.underlying t,x with
  |some (.slice _),.slice none _ _=>pure lH
  | some (.slice e),.slice (some (n,o)) len cap=>do
    lq (match cap with| .lost=>false|_=>true)
    let z ←lift (ma P e)
    lX n o (vT len z.cells)
    pure lH
  |_,_=>fail
def rK(P:Program)(b:Builtin)(argTypes:Array TypeId)(args:List AV):M AV:=
 match b,args with
 | .len,[x]=>sl P argTypes x
 | .append,[s,x]=>pH P argTypes s x
 | .copy,[d,x]=>rR P argTypes d x
 | .clear,[x]=>rU P argTypes x
 | .min,x::l=>lift (wA min2 l x)
 | .max,x::l=>lift (wA max2 l x)
 |_,_=>fail
inductive Ih where
 |fn (f:FuncId)
 |round (l:Nat)
 |row (n o k:Nat)
def ju(call:Ih->List AV->M AV)(f:AV)(args:List AV):M AV:=
 match f with
 | .func (.func g) first captured=>call (.fn g) (first++args++captured)
 | .yield l=>call (.round l) args
 |_=>fail
def Fw(P:Program)(t:TypeId)(name:String):Option FuncId:=
  match P.info? t with
  |none=>none
  | some i=>match i.methods.toList.find? (·.name == name) with
    |none=>none
    | some m=>match m.path.isEmpty,m.func with
      | true,some (f,ptr)=>match P.underlying t,ptr with
        |some (.pointer _),true=>some f
        |some (.pointer _),false=>none
        |some _,false=>some f
        |_,_=>none
      |_,_=>none
abbrev bf:=Ih->List AV->M AV
abbrev fI:=bf->Tr AV->M AV
inductive nY (α:Type) where
 |mk (a:α)
def pT(x:Operand):fI:=fun _ t=>lift (aR t x)
def tY(c a b:Operand):fI:=fun _ t=>
  bh (aR t c) fun c=>bh (tO c) fun c=>bh (aR t a) fun a=>bh (aR t b) fun b=>
    match c with
    |true=>M.pure a
    |false=>M.pure b
def BS(P:Program)(e:TypeId):fI:=fun _ _=>
 bh (ma P e) fun z=>(newRow z.cells).bind fun r=>M.pure (.ptr (some (r,0)))
def uh(x:Operand):fI:=fun _ t=>
 bh (aR t x) fun v=>(newRow v.cells).bind fun r=>M.pure (.ptr (some (r,0)))
def tP(P:Program)(ty:TypeId)(parts:List (Nat×Operand)):fI:=fun _ t=>
 bh (pS (aR t) parts) fun ps=>lift (build P ty ps)
def td(P:Program)(ty:TypeId)(len:Nat)(parts:List (Nat×Operand)):fI:=fun _ t=>
 bh (pS (aR t) parts) fun ps=>buildSlice P ty len ps
def qA(P:Program)(ty:TypeId)(n o:Nat):M AV:=
  bh (mU P ty) fun ag=>match ag with
    |true=>fail
    | false=>(di n).bind fun ob=>match ob with
      | .pR m t=>bC (Nat.blt o m) <| lift (t.get o)
      |_=>fail
def pM(P:Program)(ty:TypeId)(call:bf)(n o:Nat):M AV:=
  bh (mU P ty) fun ag=>bh (dG P ty) fun k=>(call (.row n o (match ag with|true=>k|false=>1)) []).bind fun v=>match v with
    | .agg l=>match ag with
      |true=>M.pure (.agg l)
      |false=>lift (one l)
    |_=>fail
def loadAt(P:Program)(ty:TypeId)(call:bf)(a:AV):M AV:=
  match a with
  | .kc n o=>match Nat.ble top n with
    |true=>pM P ty call n o
    |false=>qA P ty n o
  |a=>bh (addrOf a) fun a=>loadVar P ty a.1 a.2
def o5(P:Program)(ty:TypeId)(a:Operand):fI:=fun call t=>
 bh (aR t a) fun a=>loadAt P ty call a
def qG(P:Program)(ty:TypeId)(a x:Operand):fI:=fun _ t=>
 bh (aR t a) fun a=>bh (addrOf a) fun a=>bh (aR t x) fun v=>(storeVar P ty a.1 a.2 v).bind fun _=>M.pure lH
def notNil:AV->Bool
 | .ptr none| .nilIface| .nilFunc=>false
 | .func (.func _) _ _=>true
 | .func _ _ _=>false
 |_=>true
def ti(x:Operand):fI:=fun _ t=>
 bh (aR t x) fun v=>bC (notNil v) <| M.pure v
def tC(P:Program)(op:BinOp)(t:TypeId)(x y:Operand)(a b:AV):Bool:=
 match op with
 | .eql| .neq=>EC P t x y a b
 |_=>true
def kK(P:Program)(op:BinOp)(ty:TypeId)(x y:Operand):fI:=fun _ t=>
 bh (aR t x) fun a=>bh (aR t y) fun b=>bC (tC P op ty x y a b) <| lift (mI P op ty a b)
def uV(op:UnOp)(x:Operand):fI:=fun _ t=>
 bh (aR t x) fun a=>lift (NA op a)
def tk(P:Program)(src dst:TypeId)(x:Operand):fI:=fun _ t=>
  bh (aR t x) fun a=>match a with
    | .slice _ _ _=>fail
    |a=>lift (EZ P src dst a)
def LP(P:Program)(t:TypeId)(a:AV):Option AV:=
 match P.underlying t with
 |none=>none
 |some (.interface _)=>none
 |some _=>some (.iface t a)
def tb(P:Program)(ty:TypeId)(x:Operand):fI:=fun _ t=>
 bh (aR t x) fun a=>lift (LP P ty a)
def Oq:Fn->Bool
 | .func _=>true
 |_=>false
def tj(fn:Fn)(first captured:List Operand):fI:=fun _ t=>
 bC (Oq fn) <| bh (iv (aR t) first) fun f=>bh (iv (aR t) captured) fun c=>M.pure (.func fn f c)
def B5(P:Program)(t:TypeId):Bool:=
 match P.underlying t with
 |some (.map _ _)=>true
 |_=>false
def tl(P:Program)(ty:TypeId)(r:Option Operand):fI:=fun _ t=>
 (match r with
 |none=>M.pure ()
 |some x=>bh (aR t x) fun v=>bh (intOf v) fun _=>lq (B5 P ty)).bind fun _=>
 (gR (.map [] 0)).bind fun n=>M.pure (.map (some n))
def te(P:Program)(ty:TypeId)(l c:Operand):fI:=fun _ t=>
 bh (aR t l) fun l=>bh (aR t c) fun c=>makeSlice P ty l c
def qH(P:Program)(ty:TypeId)(x:Operand)(lo hi mx:Option Operand):fI:=fun _ t=>
 bh (aR t x) fun x=>bh (opt (aR t) lo) fun lo=>bh (opt (aR t) hi) fun hi=>bh (opt (aR t) mx) fun mx=>lift (wc P ty x lo hi mx)
def tf(P:Program)(s:TypeId)(x:Operand)(f:Nat):fI:=fun _ t=>
 bh (aR t x) fun x=>lift (fieldAddr P s x f)
def wB(P:Program)(s:TypeId)(x:Operand)(f:Nat):fI:=fun _ _=>fail
def oA(P:Program)(ty:TypeId)(x i:Operand):fI:=fun _ t=>
 bh (aR t x) fun x=>bh (aR t i) fun i=>lift (indexAddr P ty x i)
def wD(P:Program)(ty:TypeId)(x i:Operand):fI:=fun _ _=>fail
def qB(P:Program)(ty:TypeId)(x i:Operand)(ok:Bool):fI:=fun _ t=>
 bh (aR t x) fun x=>bh (aR t i) fun i=>rN P ty x i ok
def mC(P:Program)(ty:TypeId)(m k x:Operand):fI:=fun _ t=>
 bh (aR t m) fun m=>bh (aR t k) fun k=>bh (aR t x) fun x=>(qF P ty m k x).bind fun _=>M.pure lH
def wg(P:Program)(asserted:TypeId)(ok:Bool)(x:Operand):fI:=fun _ _=>fail
def wE(P:Program)(ty:TypeId)(x:Operand):fI:=fun _ _=>fail
def vV(x:Operand):fI:=fun _ _=>fail
def wF(x:Operand):fI:=fun _ _=>fail
def partOf(x:AV)(i:Nat):Option AV:=
 match x with
 | .tuple l=>l[i]?
 |_=>none
def tm(x:Operand)(i:Nat):fI:=fun _ t=>bh (aR t x) fun x=>lift (partOf x i)
def qw(call:bf)(n o k:Nat):M (List AV):=(call (.row n o k) []).bind fun x=>match x with
 | .agg l=>bC (Nat.beq l.length k) <| M.pure l
 |_=>fail
def Gg(size len:Nat)(cap:kT):Bool:=
 match cap with
 | .known c=>and (Nat.beq c 0) (Nat.beq len 0)
 | .aX _ sz=>Nat.beq sz size
 | .lost=>false
def tD(P:Program)(call:bf)(argTypes:Array TypeId)(s:AV)(n o k:Nat):M AV:=
  bC (Nat.ble top n) <| bh argTypes[0]? fun t=>match P.underlying t,s with
  | some (.slice e),.slice (some (m,0)) len cap=>
    bh (P.info? e) fun i=>bC (and (qv i) (nG P argTypes[1]?)) <| bC (Gg i.size len cap) <|
    (qw call n o (k*i.size)).bind fun new=>(iU m 0 (len*i.size)).bind fun dN=>(di m).bind fun ob=>bC ob.rM <| (dy m none).bind fun _=>grown i.size i.bytes (len+k) dN new
  |_,_=>fail
def oJ(P:Program)(b:Builtin)(argTypes:Array TypeId)(args:List Operand):fI:=fun call t=>
 bh (iv (aR t) args) fun args=>match b,args with
 | .append,[s,.ae n o k]=>tD P call argTypes s n o k
 |b,args=>rK P b argTypes args
def mN(f:Operand)(args:List Operand):fI:=fun call t=>
 bh (iv (aR t) args) fun args=>bh (aR t f) fun f=>ju call f args
def tE(P:Program)(recv:Operand)(name:String)(args:List Operand):fI:=fun call t=>
  bh (iv (aR t) args) fun args=>bh (aR t recv) fun r=>match r with
    | .iface ty v=>bh (Fw P ty name) fun f=>call (.fn f) (v::args)
    |_=>fail
def NB:fI:=fun _ _=>fail
def cW(P:Program)(op:Op):nY fI:=
 match op with
 | .move x=>.mk (pT x)
 | .assign x=>.mk (pT x)
 | .pick c a b=>.mk (tY c a b)
 | .alloc e=>.mk (BS P e)
 | .box _ x=>.mk (uh x)
 | .build t parts=>.mk (tP P t parts.toList)
 | .buildSlice t len parts=>.mk (td P t len parts.toList)
 | .load t a=>.mk (o5 P t a)
 | .store t a x=>.mk (qG P t a x)
 | .nilCheck x=>.mk (ti x)
 | .binOp op t x y _=>.mk (kK P op t x y)
 | .unOp op _ x=>.mk (uV op x)
 | .convert src dst x=>.mk (tk P src dst x)
 | .makeInterface t x=>.mk (tb P t x)
 | .makeFunc fn first captured=>.mk (tj fn first.toList captured.toList)
 | .makeMap t r=>.mk (tl P t r)
 | .makeSlice t l c=>.mk (te P t l c)
 | .slice t x lo hi mx=>.mk (qH P t x lo hi mx)
 | .fieldAddr s x f=>.mk (tf P s x f)
 | .field s x f=>.mk (wB P s x f)
 | .indexAddr t x i=>.mk (oA P t x i)
 | .index t x i=>.mk (wD P t x i)
 | .lookup t x i ok=>.mk (qB P t x i ok)
 | .mapUpdate t m k x=>.mk (mC P t m k x)
 | .insert t m k x=>.mk (mC P t m k x)
 | .typeAssert x _ asserted ok=>.mk (wg P asserted ok x)
 | .range t x=>.mk (wE P t x)
 | .entry x=>.mk (wF x)
 | .next x true=>.mk (vV x)
 | .extract x i=>.mk (tm x i)
 | .call ⟨.builtin b,args,argTypes⟩=>.mk (oJ P b argTypes args.toList)
 | .call ⟨.value f,args,_⟩=>.mk (mN f args.toList)
 | .call ⟨.invoke recv name,args,_⟩=>.mk (tE P recv name args.toList)
 |_=>.mk NB
def nY.val{α:Type}(b:nY α):α:= @nY.rec α (fun _=>α) (fun a=>a) b
def Ac(P:Program)(call:bf)(t:Tr AV)(op:Op):M AV:=(cW P op).val call t
end
end Go.Rn
namespace Go.Rn
variable {α:Type}
noncomputable section
structure AF where
 fn:FuncId
 tmps:Tr AV
 nt:Nat
 todo:List Item
 defers:List Nat
 round:Option Nat
def gW(nt:Nat)(t:Tr AV)(dst:Option Tmp)(v:AV):Option (Tr AV):=
 @Option.rec Tmp (fun _=>Option (Tr AV)) (some t) (fun d=> @Bool.rec (fun _=>Option (Tr AV)) none (some (t.put d (some v))) (Nat.blt d nt)) dst
def yn(ops:Array Oper)(t:Tr AV)(j:Nat):Option Bool:=
  match ops[j]? with
  |none=>none
  | some o=>match o.dst with
    |none=>none
    | some d=>match t.get d with
      |some (.bool b)=>some b
      |_=>none
def lZ(ops:Array Oper)(g:Nat×Bool)(t:Tr AV):Bool:=
 match yn ops t g.1 with
 |some b=>b == g.2
 |none=>false
def nH(ops:Array Oper)(t:Tr AV)(j:Nat):Bool:=
  match ops[j]? with
  |none=>true
  | some o=>match o.dst with
    |none=>true
    |some d=>(t.get d).isSome
abbrev Gh:=bf->Nat->Tr AV->M (Tr AV)
def nZ(f:nY fI)(dst:Option Tmp):Gh:=fun call nt t=>(f.val call t).bind fun v=>lift (gW nt t dst v)
def o6(ops:Array Oper)(g:Nat×Bool)(f:nY fI)(dst:Option Tmp):Gh:=fun call nt t=>
 bC (nH ops t g.1) <| @Bool.rec (fun _=>M (Tr AV)) (lift (gW nt t dst lH)) ((f.val call t).bind fun v=>lift (gW nt t dst v)) (lZ ops g t)
def tZ(P:Program)(ops:Array Oper)(o:Oper):nY Gh:=
 match o.guard with
 |none=>.mk (nZ (cW P o.op) o.dst)
 |some g=>.mk (o6 ops g (cW P o.op) o.dst)
def fL(P:Program)(call:bf)(nt:Nat)(ops:Array Oper)(o:Oper)(t:Tr AV):M (Tr AV):=(tZ P ops o).val call nt t
def iV(P:Program)(call:bf)(nt:Nat)(ops:Array Oper)(l:List Oper):Tr AV->M (Tr AV):=
 @List.rec Oper (fun _=>Tr AV->M (Tr AV)) (fun t=>M.pure t) (fun o _ ih t=>(fL P call nt ops o t).bind ih) l
structure cT where
 i:Nat
 rd:List Nat
 wr:List Nat
 lo:Nat
 hi:Nat
def pK(m:Nat)(l:List Nat):List Nat:=
 @List.rec Nat (fun _=>List Nat) [] (fun x _ ih=> @Bool.rec (fun _=>List Nat) ih (List.cons x ih) (Nat.ble m x |> not)) l
def below(m:Nat)(l:List Nat):List Nat:= @Bool.rec (fun _=>List Nat) (pK m l) [] (Nat.beq m 0)
def alone(i:Nat)(m:M α):M (α×cT):=fun s=>
  @AS.rec (fun _=>R (α×cT)) (fun h nx mark rd wr=>forced nx fun lo=>
    @R.rec α (fun _=>R (α×cT)) .bad (fun a s1=>
      @AS.rec (fun _=>R (α×cT)) (fun h1 ep _ fY ly=>forced ep fun hi=>
        .ok (a,⟨i,below lo fY,below lo ly,lo,hi⟩) ⟨h1,hi,mark,below mark fY++rd,below mark ly++wr⟩) s1)
      (m ⟨h,lo,lo,[],[]⟩)) s
def kG(P:Program)(call:bf)(nt:Nat)(ops:Array Oper):List Oper->Nat->Tr AV->M (Tr AV×List cT)
 |[],_,t=>M.pure (t,[])
 |o::l,i,t=>(alone i (fL P call nt ops o t)).bind fun x=>(kG P call nt ops l (i+1) x.1).bind fun y=>M.pure (y.1,x.2::y.2)
def pY(n:Nat):List Nat->Bool
  |[]=>false
  | x::l=>match Nat.beq x n with
    |true=>true
    |false=>pY n l
def meets:List Nat->List Nat->Bool
  |[],_=>false
  | x::l,m=>match pY x m with
    |true=>true
    |false=>meets l m
def sc(lo hi:Nat):List Nat->Bool
  |[]=>false
  | x::l=>match Nat.ble lo x&&Nat.blt x hi with
    |true=>true
    |false=>sc lo hi l
def oW(x y:cT):Bool:= !(meets x.wr y.rd)&&(!(sc x.lo x.hi y.rd))
def oX(x:cT):Bool:=match x.wr with
 |[]=>Nat.ble x.hi x.lo
 |_=>false
def oB(b:Array Nat)(x:cT):List cT->Bool
  |[]=>true
  | y::l=>match Nat.beq x.i y.i||(oW x y|| !loose b x.i y.i) with
    |true=>oB b x l
    |false=>false
def mO(b:Array Nat)(all:List cT):List cT->Bool
  |[]=>true
  | x::l=>match oX x||oB b x all with
    |true=>mO b all l
    |false=>false
def oK(P:Program)(call:bf)(nt:Nat)(ops:Array Oper)(t:Tr AV):M (Tr AV):=
 (kG P call nt ops ops.toList 0 t).bind fun x=>bC (mO (Region.before ops) x.2 x.2) <| M.pure x.1
inductive cr where
 |go (fr:AF)
 |leave (fr:AF) (jump:Option Code)
def getLoop(l:Nat):M aE:=(di l).bind fun o=>match o with
 | .loop a b c d e f g h i=>M.pure (.loop a b c d e f g h i)
 |_=>fail
abbrev mb:=bf->FuncId->Tr AV->Nat->List Nat->Option Nat->List Item->M cr
def qS:mb:=fun _ fn t nt d r k=>M.pure (.go ⟨fn,t,nt,k,d,r⟩)
def o7(l:List Item):mb:=fun _ fn t nt d r k=>M.pure (.go ⟨fn,t,nt,l++k,d,r⟩)
def Gi(c:Operand)(a b:Code):mb:=fun _ fn t nt d r k=>
 bh (aR t c) fun v=>bh (tO v) fun v=>M.pure (.go ⟨fn,t,nt,.code (@Bool.rec (fun _=>Code) b a v)::k,d,r⟩)
def yY(id:Nat):mb:=fun _ fn t nt d r k=>match exitTo id k with
 |some k'=>M.pure (.go ⟨fn,t,nt,k',d,r⟩)
 |none=>M.pure (.leave ⟨fn,t,nt,.code (.exit id)::k,d,r⟩ (some (.exit id)))
def yZ(l:Nat):mb:=fun _ fn t nt d r k=>match gotoIn l k with
 |some k'=>M.pure (.go ⟨fn,t,nt,k',d,r⟩)
 |none=>M.pure (.leave ⟨fn,t,nt,.code (.goto l)::k,d,r⟩ (some (.goto l)))
def Ot:mb:=fun _ fn t nt d r k=>M.pure (.leave ⟨fn,t,nt,.code .ret::k,d,r⟩ (some .ret))
def Fx(P:Program)(ops:Array Oper):mb:=fun call fn t nt d r k=>
 (iV P call nt ops ops.toList t).bind fun t=>M.pure (.go ⟨fn,t,nt,k,d,r⟩)
def E0(P:Program)(ops:Array Oper):mb:=fun call fn t nt d r k=>
 (oK P call nt ops t).bind fun t=>M.pure (.go ⟨fn,t,nt,k,d,r⟩)
def U2:LoopState->Bool
 | .busy=>false
 |_=>true
def kA(l:Nat):M (Option Code):=(getLoop l).bind fun o=>match o with
  | .loop st fV fn t nt ps a b dd=>
    bC (U2 st) <| (dy l (some (.loop .exhausted fV fn t nt ps a b dd))).bind fun _=>M.pure fV
  |_=>fail
def andThen(p:Option Code)(k:List Item):List Item:=
 match p with
 |none=>k
 |some c=>.code c::k
def rV(f:Operand)(params:List Tmp)(assign body:Code):mb:=fun call fn t nt d r k=>
  match r with
  | none=>
    (gR .defs).bind fun df=>(gR (.loop .ready none fn t nt params assign body df)).bind fun l=>
    bh (aR t f) fun g=>(ju call g [.yield l]).bind fun _=>(kA l).bind fun p=>
    M.pure (.go ⟨fn,t,nt,andThen p k,df::d,r⟩)
  | some l0=>(getLoop l0).bind fun o=>match o with
    | .loop _ _ _ _ _ _ _ _ df=>
      (gR (.loop .ready none fn t nt params assign body df)).bind fun l=>
      bh (aR t f) fun g=>(ju call g [.yield l]).bind fun _=>(kA l).bind fun p=>
      M.pure (.go ⟨fn,t,nt,andThen p k,d,r⟩)
    |_=>fail
def wG:mb:=fun _ fn t nt d r k=>
  match r with
  |none=>fail
  | some l=>(getLoop l).bind fun o=>match o with
    | .loop .ready fV fn1 t1 nt1 ps a b df=>
      (dy l (some (.loop .busy fV fn1 t1 nt1 ps a b df))).bind fun _=>M.pure (.go ⟨fn,t,nt,k,d,r⟩)
    |_=>fail
def Gj:mb:=fun _ _ _ _ _ _ _=>fail
def NC(P:Program)(c:Code):nY mb:=
 match c with
 | .skip=>.mk qS
 | .label _=>.mk qS
 | .seq a b=>.mk (o7 [.code a,.code b])
 | .cond c a b=>.mk (Gi c a b)
 | .block id b=>.mk (o7 [.code b,.inBlock id])
 | .loop b=>.mk (o7 [.code b,.inLoop b])
 | .scope b=>.mk (o7 [.code b,.inScope b])
 | .exit id=>.mk (yY id)
 | .goto l=>.mk (yZ l)
 | .ret=>.mk Ot
 | .region _ ops false=>.mk (Fx P ops)
 | .region _ ops true=>.mk (E0 P ops)
 | .rangeFunc f params a b=>.mk (rV f params.toList a b)
 | .refuse _=>.mk Gj
def ua(P:Program)(it:Item):nY mb:=
 match it with
 | .code c=>NC P c
 | .inBlock _=>.mk qS
 | .inScope _=>.mk qS
 | .inLoop b=>.mk (o7 [.code b,.inLoop b])
 | .beginRound=>.mk wG
 |_=>.mk Gj
def kH(P:Program)(call:bf)(fr:AF):M cr:=
  @AF.rec (fun _=>M cr) (fun fn t nt todo d r=>
    @List.rec Item (fun _=>M cr) (M.pure (.leave ⟨fn,t,nt,[],d,r⟩ none)) (fun it k _=>(ua P it).val call fn t nt d r k) todo) fr
def tp(P:Program)(t:Tr AV):ResultVar->M AV
  | .tmp i=>lift (t.get i)
  | .cell a ty=>do
    let a ←lift (match t.get a with
      |some x=>addrOf x
      |none=>none)
    loadVar P ty a.1 a.2
def pG(P:Program)(t:Tr AV):List ResultVar->M (List AV)
  |[]=>pure []
  | r::l=>do
    let v ←tp P t r
    let vs ←pG P t l
    pure (v::vs)
def oL:List Nat->M Unit
  |[]=>pure ()
  | d ::l=>do
    match ←di d with
    | .defs=>do
      dy d none
      oL l
    |_=>fail
def iD(l:List AV):Tr AV:=Tr.fill l 0 .nil
def lD:List Tmp->List AV->Tr AV->Tr AV
 |p::ps,v::vs,t=>lD ps vs (t.put p (some v))
 |_,_,t=>t
def y3:List α->List (α×List α)
 |[]=>[]
 |x::l=>(x,l)::(y3 l).map fun(y,r)=>(y,x::r)
def finish(P:Program)(rs:List ResultVar)(fr:AF)(j:Option Code):M AV:=do
 lq (match j with|none|some .ret=>true|_=>false)
 oL fr.defers
 let vs ←pG P fr.tmps rs
 match vs with
 |[v]=>pure v
 |_=>pure (.tuple vs)
def endRound(l:Nat)(j:Option Code):M AV:=(getLoop l).bind fun o=>match o with
  | .loop _ _ fn t nt ps a b d=>
    (dy l (some (.loop (match j with|none=>.ready|some _=>.done) j fn t nt ps a b d))).bind fun _=>M.pure (.bool j.isNone)
  |_=>fail
end
end Go.Rn
namespace Go.Rn
variable {α β:Type} {s s1:AS} {f:α->M β} {n:Nat} {m:M α} {b:β} {c:Bool} {a:α}
structure Gk (A:Nat->Prop) (m0:Nat) (s t:AS):Prop where
 nx:s.nx=t.nx
 mark:s.mark=t.mark
 low:m0<=s.mark
 is:∀k,k<s.nx->(A k\/m0<=k)->s.h.get k=t.h.get k
structure bY (s:AS):Prop where
 mark:s.mark<=s.nx
 nx:s.nx<=top
structure sJ (s s1:AS) (dr dw:List Nat):Prop where
 rd:s1.rd=dr++s.rd
 wr:s1.wr=dw++s.wr
 nx:s.nx<=s1.nx
 top:s1.nx<=top
 mark:s1.mark=s.mark
 same:∀k,k<s.mark->k ∉ dw->s1.h.get k=s.h.get k
 sub:∀k∈dw,k∈dr
 na:∀k,s1.nx<=k->k<Rn.top->s1.h.get k=s.h.get k
theorem sJ.dD{dr dw:List Nat}(f:bY s)(d:sJ s s1 dr dw):bY s1:=
 ⟨by rw[d.mark];exact Nat.le_trans f.mark d.nx,d.top⟩
structure xb (A:Nat->Prop) (m0:Nat) (s1 t t1:AS) (dr dw:List Nat):Prop where
 sd:Gk A m0 s1 t1
 rd:t1.rd=dr++t.rd
 wr:t1.wr=dw++t.wr
 same:∀k,k<m0->k ∉ dw->t1.h.get k=t.h.get k
 na:∀k,s1.nx<=k->k<Rn.top->t1.h.get k=t.h.get k
def Local(m:M α):Prop:=
  ∀ s v s1,bY s->m s= .ok v s1->∃dr dw,sJ s s1 dr dw/\
    ∀A m0 t,Gk A m0 s t->(∀k∈dr,k<m0->A k)->∃t1,m t= .ok v t1/\xb A m0 s1 t t1 dr dw
theorem M.dA(h:m s= .ok a s1):(m.bind f) s=f a s1:=by
 unfold M.bind;rw[h]
theorem M.Tq(h:m s= .bad):(m.bind f) s= .bad:=by
 unfold M.bind;rw[h]
theorem M.bG{s2:AS}(h:(m.bind f) s= .ok b s2):∃a s1,m s= .ok a s1/\f a s1= .ok b s2:=by
 cases e:m s with
 |bad=>rw[M.Tq e] at h;cases h
 |ok a s1=>rw[M.dA e] at h;exact⟨a,s1,rfl,h⟩
theorem bind_eq(m:M α)(f:α->M β):(m >>= f)=m.bind f:=rfl
theorem U3(a:α):(pure a:M α)=M.pure a:=rfl
theorem dk(a:α)(f:α->M β):bh (some a) f=f a:=rfl
theorem fG(m:M β):bC true m=m:=rfl
theorem ch{o:Option α}(h:bh o f s= .ok b s1):∃a,o=some a/\f a s= .ok b s1:=by
 cases o with
 |none=>cases h
 |some a=>exact⟨a,rfl,h⟩
theorem dY{m:M β}(h:bC c m s= .ok b s1):c=true/\m s= .ok b s1:=by
 cases c with
 |false=>cases h
 |true=>exact⟨rfl,h⟩
theorem bW{b:α}(h:M.pure a s= .ok b s1):b=a/\s1=s:=by
 cases h;exact⟨rfl,rfl⟩
theorem gq{o:Option α}{b:α}(h:lift o s= .ok b s1):o=some b/\s1=s:=by
 cases o with
 |none=>cases h
 |some a=>cases h;exact⟨rfl,rfl⟩
theorem Local.pure(a:α):Local (M.pure a):=by
 intro s v s1 fi h
 obtain⟨rfl,rfl⟩:=bW h
 exact⟨[],[],⟨rfl,rfl,Nat.le_refl _,fi.nx,rfl,fun _ _ _=>rfl,fun _ h=>h,fun _ _ _=>rfl⟩,
  fun A m0 t ag _=>⟨t,rfl,ag,rfl,rfl,fun _ _ _=>rfl,fun _ _ _=>rfl⟩⟩
theorem Local.fail:Local (fail:M α):=by
 intro s v s1 _ h;cases h
theorem Local.bh{o:Option α}(h:∀a,o=some a->Local (f a)):Local (bh o f):=by
 cases o with
 |none=>exact Local.fail
 |some a=>exact h a rfl
theorem Local.bC{m:M β}(h:c=true->Local m):Local (bC c m):=by
 cases c with
 |false=>exact Local.fail
 |true=>exact h rfl
theorem Local.lift(o:Option α):Local (lift o):=by
 cases o with
 |none=>exact Local.fail
 |some a=>exact Local.pure a
theorem Local.lq(b:Bool):Local (lq b):=by
 cases b with
 |false=>exact Local.fail
 |true=>exact Local.pure ()
theorem Local.bind(hm:Local m)(hf:∀a,Local (f a)):Local (m.bind f):=by
 intro s v s2 fi h
 obtain⟨a,s1,h1,h2⟩:=M.bG h
 obtain⟨dr,dw,d,x⟩:=hm s a s1 fi h1
 obtain⟨xE,qe,d',x'⟩:=hf a s1 v s2 (d.dD fi) h2
 refine⟨xE++dr,qe++dw,⟨by rw[d'.rd,d.rd,List.append_assoc],by rw[d'.wr,d.wr,List.append_assoc],Nat.le_trans d.nx d'.nx,d'.top,d'.mark.trans d.mark,?_,?_,?_⟩,?_⟩
 ·intro k hk hn
  have gf:k ∉ qe:=fun e=>hn (List.mem_append.2 (.inl e))
  have mq:k ∉ dw:=fun e=>hn (List.mem_append.2 (.inr e))
  exact(d'.same k (by rw[d.mark];exact hk) gf).trans (d.same k hk mq)
 ·intro k hk
  rcases List.mem_append.1 hk with e|e
  ·exact List.mem_append.2 (.inl (d'.sub k e))
  ·exact List.mem_append.2 (.inr (d.sub k e))
 ·intro k hk ht
  exact(d'.na k hk ht).trans (d.na k (Nat.le_trans d'.nx hk) ht)
 ·intro A m0 t ag hA
  obtain⟨t1,e1,al⟩:=x A m0 t ag (fun k hk cQ=>hA k (List.mem_append.2 (.inr hk)) cQ)
  obtain⟨t2,e2,pq⟩:=x' A m0 t1 al.sd (fun k hk cQ=>hA k (List.mem_append.2 (.inl hk)) cQ)
  refine⟨t2,by rw[M.dA e1];exact e2,pq.sd,by rw[pq.rd,al.rd,List.append_assoc],by rw[pq.wr,al.wr,List.append_assoc],?_,?_⟩
  ·intro k hk hn
   have gf:k ∉ qe:=fun e=>hn (List.mem_append.2 (.inl e))
   have mq:k ∉ dw:=fun e=>hn (List.mem_append.2 (.inr e))
   exact(pq.same k hk gf).trans (al.same k hk mq)
  ·intro k hk ht
   exact(pq.na k hk ht).trans (al.na k (Nat.le_trans d'.nx hk) ht)
theorem blt_eq(n m:Nat):(Nat.blt n m=true)=(n<m):=by
 show(Nat.ble (n+1) m=true)=_
 rw[Nat.ble_eq];rfl
theorem wi(a b:α)(n m:Nat): @Bool.rec (fun _=>α) a b (Nat.blt n m)=if n<m then b else a:=by
 rw[EX];by_cases h:n<m
 ·rw[if_pos h,if_pos (by rw[blt_eq];exact h)]
 ·rw[if_neg h,if_neg (by rw[blt_eq];exact h)]
theorem LQ{o:aE}(h:di n s= .ok o s1):
    n<s.nx/\s.h.get n=some o/\s1=if n<s.mark then{s with rd:=n::s.rd} else s:=by
  obtain⟨hh,nx,mark,rd,wr⟩:=s
  cases hb:Nat.blt n nx with
  | false=>
    have:di n ⟨hh,nx,mark,rd,wr⟩= .bad:=by show @Bool.rec (fun _=>R aE) .bad _ (Nat.blt n nx)=_;rw[hb]
    rw[this] at h;cases h
  | true=>
    cases hg:hh.get n with
    | none=>
      have:di n ⟨hh,nx,mark,rd,wr⟩= .bad:=by
        show @Bool.rec (fun _=>R aE) .bad (@Option.rec aE (fun _=>R aE) .bad _ (hh.get n)) (Nat.blt n nx)=_;rw[hb,hg]
      rw[this] at h;cases h
    | some o'=>
      have:di n ⟨hh,nx,mark,rd,wr⟩= @Bool.rec (fun _=>R aE) (.ok o' ⟨hh,nx,mark,rd,wr⟩) (.ok o' ⟨hh,nx,mark,n::rd,wr⟩) (Nat.blt n mark):=by
        show @Bool.rec (fun _=>R aE) .bad (@Option.rec aE (fun _=>R aE) .bad _ (hh.get n)) (Nat.blt n nx)=_;rw[hb,hg]
      rw[this] at h
      have cQ:n<nx:=by rw[←blt_eq];exact hb
      cases hm:Nat.blt n mark with
      | false=>
        rw[hm] at h;cases h
        have:¬n<mark:=by rw[←blt_eq,hm];simp
        exact⟨cQ,by first|exact hg|rfl,by simp[this]⟩
      | true=>
        rw[hm] at h;cases h
        have:n<mark:=by rw[←blt_eq];exact hm
        exact⟨cQ,by first|exact hg|rfl,by simp[this]⟩
theorem MS{o:aE}(h1:n<s.nx)(h2:s.h.get n=some o):
  di n s= .ok o (if n<s.mark then{s with rd:=n::s.rd} else s):=by
 obtain⟨hh,nx,mark,rd,wr⟩:=s
 have hb:Nat.blt n nx=true:=by rw[blt_eq];exact h1
 have hg:hh.get n=some o:=h2
 show @Bool.rec (fun _=>R aE) .bad (@Option.rec aE (fun _=>R aE) .bad (fun o=> @Bool.rec (fun _=>R aE) (.ok o ⟨hh,nx,mark,rd,wr⟩) (.ok o ⟨hh,nx,mark,n::rd,wr⟩) (Nat.blt n mark)) (hh.get n)) (Nat.blt n nx)=_
 rw[hb,hg]
 show @Bool.rec (fun _=>R aE) _ _ (Nat.blt n mark)=_
 rw[wi]
 by_cases e:n<mark<;>simp[e]
theorem LR{o:Option aE}{u:Unit}(h:dy n o s= .ok u s1):
    n <s.nx/\n<top/\(∃p,s.h.get n=some p/\p.du=false)/\
      s1=if n<s.mark then{s with h:=s.h.put n o,rd:=n::s.rd,wr:=n::s.wr} else{s with h:=s.h.put n o}:=by
  obtain⟨hh,nx,mark,rd,wr⟩:=s
  have e:dy n o ⟨hh,nx,mark,rd,wr⟩= @Bool.rec (fun _=>R Unit) .bad
      (@Option.rec aE (fun _=>R Unit) .bad
        (fun p=> @Bool.rec (fun _=>R Unit)
          (@Bool.rec (fun _=>R Unit) (.ok () ⟨hh.put n o,nx,mark,rd,wr⟩) (.ok () ⟨hh.put n o,nx,mark,n::rd,n::wr⟩) (Nat.blt n mark))
          .bad p.du)
        (hh.get n))
      (and (Nat.blt n nx) (Nat.blt n top)):=rfl
  rw[e] at h
  cases hb:and (Nat.blt n nx) (Nat.blt n top) with
  |false=>rw[hb] at h;cases h
  | true=>
    rw[hb] at h
    have jA:=Bool.and_eq_true_iff.1 hb
    rw[blt_eq,blt_eq] at jA
    cases hg:hh.get n with
    |none=>rw[hg] at h;cases h
    | some p=>
      rw[hg] at h
      cases hr:p.du with
      | true=>
        have h': @Bool.rec (fun _=>R Unit)
          (@Bool.rec (fun _=>R Unit) (.ok () ⟨hh.put n o,nx,mark,rd,wr⟩) (.ok () ⟨hh.put n o,nx,mark,n::rd,n::wr⟩) (Nat.blt n mark))
          .bad p.du= .ok u s1:=h
        rw[hr] at h';cases h'
      | false=>
        have h': @Bool.rec (fun _=>R Unit)
          (@Bool.rec (fun _=>R Unit) (.ok () ⟨hh.put n o,nx,mark,rd,wr⟩) (.ok () ⟨hh.put n o,nx,mark,n::rd,n::wr⟩) (Nat.blt n mark))
          .bad p.du= .ok u s1:=h
        rw[hr] at h'
        refine⟨jA.1,jA.2,⟨p,by first|exact hg|rfl,hr⟩,?_⟩
        have Ad: @Bool.rec (fun _=>R Unit) (.ok () ⟨hh.put n o,nx,mark,rd,wr⟩) (.ok () ⟨hh.put n o,nx,mark,n::rd,n::wr⟩) (Nat.blt n mark)= .ok u s1:=h'
        rw[wi] at Ad
        by_cases e:n<mark
        · rw[if_pos e] at Ad;injection Ad with _ h3;simp[e, ←h3]
        · rw[if_neg e] at Ad;injection Ad with _ h3;simp[e, ←h3]
theorem MT{o:Option aE}{p:aE}(h1:n<s.nx)(h2:n<top)(h3:s.h.get n=some p)(h4:p.du=false):
    dy n o s= .ok () (if n<s.mark then{s with h:=s.h.put n o,rd:=n::s.rd,wr:=n::s.wr} else{s with h:=s.h.put n o}):=by
  obtain⟨hh,nx,mark,rd,wr⟩:=s
  have e:dy n o ⟨hh,nx,mark,rd,wr⟩= @Bool.rec (fun _=>R Unit) .bad
      (@Option.rec aE (fun _=>R Unit) .bad
        (fun p=> @Bool.rec (fun _=>R Unit)
          (@Bool.rec (fun _=>R Unit) (.ok () ⟨hh.put n o,nx,mark,rd,wr⟩) (.ok () ⟨hh.put n o,nx,mark,n::rd,n::wr⟩) (Nat.blt n mark))
          .bad p.du)
        (hh.get n))
      (and (Nat.blt n nx) (Nat.blt n top)):=rfl
  have hb:and (Nat.blt n nx) (Nat.blt n top)=true:=Bool.and_eq_true_iff.2 ⟨by rw[blt_eq];exact h1,by rw[blt_eq];exact h2⟩
  have hg:hh.get n=some p:=h3
  rw[e,hb,hg]
  show @Bool.rec (fun _=>R Unit) (@Bool.rec (fun _=>R Unit) (.ok () ⟨hh.put n o,nx,mark,rd,wr⟩) (.ok () ⟨hh.put n o,nx,mark,n::rd,n::wr⟩) (Nat.blt n mark)) .bad p.du=_
  rw[h4]
  show @Bool.rec (fun _=>R Unit) (.ok () ⟨hh.put n o,nx,mark,rd,wr⟩) (.ok () ⟨hh.put n o,nx,mark,n::rd,n::wr⟩) (Nat.blt n mark)=_
  rw[wi]
  by_cases e:n<mark<;>simp[e]
theorem rL{o:aE}(h:gR o s= .ok n s1):s.nx<top/\n=s.nx/\s1={s with h:=s.h.put s.nx (some o),nx:=s.nx+1}:=by
 obtain⟨hh,nx,mark,rd,wr⟩:=s
 have e:gR o ⟨hh,nx,mark,rd,wr⟩= @Bool.rec (fun _=>R Nat) .bad (forced nx fun m=>.ok m ⟨hh.put m (some o),m+1,mark,rd,wr⟩) (Nat.blt nx top):=rfl
 rw[e,rI] at h
 cases hb:Nat.blt nx top with
 |false=>rw[hb] at h;cases h
 |true=>rw[hb] at h;cases h;exact⟨by rw[←blt_eq];exact hb,rfl,rfl⟩
theorem U4{o:aE}(h:s.nx<top):gR o s= .ok s.nx {s with h:=s.h.put s.nx (some o),nx:=s.nx+1}:=by
 obtain⟨hh,nx,mark,rd,wr⟩:=s
 have e:gR o ⟨hh,nx,mark,rd,wr⟩= @Bool.rec (fun _=>R Nat) .bad (forced nx fun m=>.ok m ⟨hh.put m (some o),m+1,mark,rd,wr⟩) (Nat.blt nx top):=rfl
 have hb:Nat.blt nx top=true:=by rw[blt_eq];exact h
 rw[e,rI,hb]
theorem Local.di(n:Nat):Local (di n):=by
 intro s v s1 fi h
 obtain⟨h1,h2,rfl⟩:=LQ h
 by_cases e:n<s.mark
 ·rw[if_pos e]
  refine⟨[n],[],⟨rfl,rfl,Nat.le_refl _,fi.nx,rfl,fun _ _ _=>rfl,fun _ h=>(by cases h),fun _ _ _=>rfl⟩,fun A m0 t ag hA=>?_⟩
  have hq:A n\/m0<=n:=by
   by_cases q:n<m0
   ·exact .inl (hA n jQ q)
   ·exact .inr aF
  have hg:=ag.is n h1 hq
  have hr:=MS (o:=v) (s:=t) (n:=n) (by rw[←ag.nx];exact h1) (by rw[←hg];exact h2)
  rw[←ag.mark,if_pos e] at hr
  exact⟨_,hr,⟨ag.nx,by first|exact ag.mark|rfl,ag.low,ag.is⟩,rfl,rfl,fun _ _ _=>rfl,fun _ _ _=>rfl⟩
 ·rw[if_neg e]
  refine⟨[],[],⟨rfl,rfl,Nat.le_refl _,fi.nx,rfl,fun _ _ _=>rfl,fun _ h=>(by cases h),fun _ _ _=>rfl⟩,fun A m0 t ag hA=>?_⟩
  have hg:=ag.is n h1 (.inr (Nat.le_trans ag.low aF))
  have hr:=MS (o:=v) (s:=t) (n:=n) (by rw[←ag.nx];exact h1) (by rw[←hg];exact h2)
  rw[←ag.mark,if_neg e] at hr
  exact⟨_,hr,ag,rfl,rfl,fun _ _ _=>rfl,fun _ _ _=>rfl⟩
theorem Local.dy(n:Nat)(o:Option aE):Local (dy n o):=by
  intro s v s1 fi h
  obtain⟨h1,ht,⟨p,h2,h3⟩,rfl⟩:=LR h
  by_cases e:n<s.mark
  · rw [if_pos e]
    refine⟨[n],[n],⟨rfl,rfl,Nat.le_refl _,fi.nx,rfl,fun k hk hn=>?_,fun _ h=>h,fun k hk iy=>?_⟩,fun A m0 t ag hA=>?_⟩
    · show(s.h.put n o).get k=_
      rw[Tr.hH _ _ _ _ ht (by have:=fi.mark;have:=fi.nx;omega),if_neg (by simpa using hn)]
    · show(s.h.put n o).get k=_
      have:s.nx<=k:=hk
      rw[Tr.hH _ _ _ _ ht iy,if_neg aF]
    · have hq:A n\/m0<=n:=by
        by_cases q:n<m0
        · exact .inl (hA n jQ q)
        · exact .inr aF
      have hg:=ag.is n h1 hq
      have hr:=MT (o:=o) (s:=t) (n:=n) (p:=p) (by rw[←ag.nx];exact h1) ht (by rw[←hg];exact h2) h3
      rw[←ag.mark,if_pos e] at hr
      refine⟨_,hr,⟨ag.nx,by first|exact ag.mark|rfl,ag.low,fun k hk hq=>?_⟩,rfl,rfl,fun k hk hn=>?_,fun k hk iy=>?_⟩
      · show(s.h.put n o).get k=(t.h.put n o).get k
        have rf:k<s.nx:=hk
        have:=fi.nx
        rw[Tr.hH _ _ _ _ ht aF,Tr.hH _ _ _ _ ht aF]
        by_cases q:k=n
        · simp[q]
        · rw[if_neg q,if_neg q];exact ag.is k hk hq
      · show(t.h.put n o).get k=_
        have:=fi.mark;have:=fi.nx;have:=ag.low
        rw[Tr.hH _ _ _ _ ht aF,if_neg (by simpa using hn)]
      · show(t.h.put n o).get k=_
        have:s.nx<=k:=hk
        rw[Tr.hH _ _ _ _ ht iy,if_neg aF]
  · rw [if_neg e]
    refine⟨[],[],⟨rfl,rfl,Nat.le_refl _,fi.nx,rfl,fun k hk hn=>?_,fun _ h=>h,fun k hk iy=>?_⟩,fun A m0 t ag hA=>?_⟩
    · show(s.h.put n o).get k=_
      have:=fi.mark;have:=fi.nx
      rw[Tr.hH _ _ _ _ ht aF,if_neg aF]
    · show(s.h.put n o).get k=_
      have:s.nx<=k:=hk
      rw[Tr.hH _ _ _ _ ht iy,if_neg aF]
    · have hg:=ag.is n h1 (.inr (Nat.le_trans ag.low aF))
      have hr:=MT (o:=o) (s:=t) (n:=n) (p:=p) (by rw[←ag.nx];exact h1) ht (by rw[←hg];exact h2) h3
      rw[←ag.mark,if_neg e] at hr
      refine⟨_,hr,⟨ag.nx,by first|exact ag.mark|rfl,ag.low,fun k hk hq=>?_⟩,rfl,rfl,fun k hk hn=>?_,fun k hk iy=>?_⟩
      · show(s.h.put n o).get k=(t.h.put n o).get k
        have rf:k<s.nx:=hk
        have:=fi.nx
        rw[Tr.hH _ _ _ _ ht aF,Tr.hH _ _ _ _ ht aF]
        by_cases q:k=n
        · simp[q]
        · rw[if_neg q,if_neg q];exact ag.is k hk hq
      · show(t.h.put n o).get k=_
        have:=fi.mark;have:=fi.nx;have:=ag.low
        rw[Tr.hH _ _ _ _ ht aF,if_neg aF]
      · show(t.h.put n o).get k=_
        have:s.nx<=k:=hk
        rw[Tr.hH _ _ _ _ ht iy,if_neg aF]
theorem Local.gR(o:aE):Local (gR o):=by
 intro s v s1 fi h
 obtain⟨ht,rfl,rfl⟩:=rL h
 refine⟨[],[],⟨rfl,rfl,Nat.le_succ _,ht,rfl,fun k hk hn=>?_,fun _ h=>h,fun k hk iy=>?_⟩,fun A m0 t ag hA=>?_⟩
 ·show(s.h.put s.nx (some o)).get k=_
  have:=fi.mark;have:=fi.nx
  rw[Tr.hH _ _ _ _ ht aF,if_neg aF]
 ·show(s.h.put s.nx (some o)).get k=_
  have:s.nx+1<=k:=hk
  rw[Tr.hH _ _ _ _ ht iy,if_neg aF]
 ·have hr:=U4 (o:=o) (s:=t) (by rw[←ag.nx];exact ht)
  rw[←ag.nx] at hr
  refine⟨_,hr,⟨rfl,ag.mark,ag.low,fun k hk hq=>?_⟩,rfl,rfl,fun k hk hn=>?_,fun k hk iy=>?_⟩
  ·show(s.h.put s.nx (some o)).get k=(t.h.put s.nx (some o)).get k
   have rf:k<s.nx+1:=hk
   rw[Tr.hH _ _ _ _ ht aF,Tr.hH _ _ _ _ ht aF]
   by_cases q:k=s.nx
   ·simp[q]
   ·rw[if_neg q,if_neg q];exact ag.is k aF hq
  ·show(t.h.put s.nx (some o)).get k=_
   have:=fi.mark;have:=fi.nx;have:=ag.low
   rw[Tr.hH _ _ _ _ ht aF,if_neg aF]
  ·show(t.h.put s.nx (some o)).get k=_
   have:s.nx+1<=k:=hk
   rw[Tr.hH _ _ _ _ ht iy,if_neg aF]
end Go.Rn
namespace Go.Rn
theorem Local.iU(n off k:Nat):Local (iU n off k):=by
  cases k with
  |zero=>exact Local.pure _
  | succ k=>
    unfold Rn.iU
    repeat' (first
    |exact Local.pure _|exact Local.fail|exact Local.lift _|exact Local.di _
    |refine Local.bh (fun _ _=>?_)|refine Local.bC (fun _=>?_)|refine Local.bind ?_ (fun _=>?_)
    |split)
theorem Local.lX(n off:Nat)(l:List AV):Local (lX n off l):=by
 unfold Rn.lX
 repeat' (first
  |exact Local.pure _|exact Local.fail|exact Local.di _|exact Local.dy _ _
  |exact Local.fail
  |refine Local.bh (fun _ _=>?_)|refine Local.bC (fun _=>?_)|refine Local.bind ?_ (fun _=>?_)
  |split)
theorem Local.newRow(l:List AV):Local (newRow l):=by
 unfold Rn.newRow
 repeat' (first
  |exact Local.pure _|exact Local.fail|exact Local.gR _
  |exact Local.fail
  |refine Local.bh (fun _ _=>?_)|refine Local.bC (fun _=>?_)|refine Local.bind ?_ (fun _=>?_)
  |split)
theorem Local.loadVar(P:Program)(t:TypeId)(n off:Nat):Local (loadVar P t n off):=by
 unfold Rn.loadVar
 repeat' (first
  |exact Local.pure _|exact Local.fail|exact Local.lift _
  |exact Local.fail|exact Local.iU _ _ _
  |refine Local.bh (fun _ _=>?_)|refine Local.bC (fun _=>?_)|refine Local.bind ?_ (fun _=>?_)
  |split)
theorem Local.qA(P:Program)(t:TypeId)(n off:Nat):Local (qA P t n off):=by
 unfold Rn.qA
 repeat' (first
  |exact Local.pure _|exact Local.fail|exact Local.lift _|exact Local.di _
  |exact Local.fail
  |refine Local.bh (fun _ _=>?_)|refine Local.bC (fun _=>?_)|refine Local.bind ?_ (fun _=>?_)
  |split)
theorem Local.pM(P:Program)(t:TypeId){call:bf}(dL:∀t a,Local (call t a))(n o:Nat):Local (pM P t call n o):=by
 unfold Rn.pM
 repeat' (first
  |exact Local.pure _|exact Local.fail|exact Local.lift _
  |exact dL _ _
  |refine Local.bh (fun _ _=>?_)|refine Local.bC (fun _=>?_)|refine Local.bind ?_ (fun _=>?_)
  |split)
theorem Local.loadAt(P:Program)(t:TypeId){call:bf}(dL:∀t a,Local (call t a))(a:AV):Local (loadAt P t call a):=by
 unfold Rn.loadAt
 repeat' (first
  |exact Local.pure _|exact Local.fail
  |exact dL _ _|exact Local.loadVar _ _ _ _|exact Local.qA _ _ _ _|exact Local.pM _ _ dL _ _
  |refine Local.bh (fun _ _=>?_)|refine Local.bC (fun _=>?_)|refine Local.bind ?_ (fun _=>?_)
  |split)
theorem Local.storeVar(P:Program)(t:TypeId)(n off:Nat)(v:AV):Local (storeVar P t n off v):=by
 unfold Rn.storeVar
 repeat' (first
  |exact Local.pure _|exact Local.fail
  |exact Local.fail|exact Local.lX _ _ _
  |refine Local.bh (fun _ _=>?_)|refine Local.bC (fun _=>?_)|refine Local.bind ?_ (fun _=>?_)
  |split)
theorem Local.buildSlice(P:Program)(t:TypeId)(len:Nat)(parts:List (Nat×AV)):Local (buildSlice P t len parts):=by
 unfold Rn.buildSlice
 repeat' (first
  |exact Local.pure _|exact Local.fail|exact Local.lift _|exact Local.lq _
  |exact Local.fail|exact Local.newRow _
  |refine Local.bh (fun _ _=>?_)|refine Local.bC (fun _=>?_)|refine Local.bind ?_ (fun _=>?_)
  |split)
theorem Local.makeSlice(P:Program)(t:TypeId)(len cap:AV):Local (makeSlice P t len cap):=by
 unfold Rn.makeSlice
 repeat' (first
  |exact Local.pure _|exact Local.fail|exact Local.gR _
  |exact Local.fail
  |refine Local.bh (fun _ _=>?_)|refine Local.bC (fun _=>?_)|refine Local.bind ?_ (fun _=>?_)
  |split)
theorem Local.firstCells(size n:Nat)(v:AV):Local (firstCells size n v):=by
 unfold Rn.firstCells
 repeat' (first
  |exact Local.pure _|exact Local.fail
  |exact Local.fail|exact Local.iU _ _ _
  |refine Local.bh (fun _ _=>?_)|refine Local.bC (fun _=>?_)|refine Local.bind ?_ (fun _=>?_)
  |split)
theorem Local.grown(a b c:Nat)(l m:List AV):Local (grown a b c l m):=by
 unfold Rn.grown
 repeat' (first
  |exact Local.pure _|exact Local.fail
  |exact Local.fail|exact Local.newRow _
  |refine Local.bh (fun _ _=>?_)|refine Local.bC (fun _=>?_)|refine Local.bind ?_ (fun _=>?_)
  |split)
theorem Local.qo(n off:Nat)(l:List AV):Local (qo n off l):=by
 unfold Rn.qo
 repeat' (first
  |exact Local.pure _|exact Local.fail|exact Local.di _|exact Local.dy _ _
  |exact Local.fail
  |refine Local.bh (fun _ _=>?_)|refine Local.bC (fun _=>?_)|refine Local.bind ?_ (fun _=>?_)
  |split)
theorem Local.rJ(size bytes:Nat)(base:Option (Nat×Nat))(len:Nat)(cap:kT)(n:Nat)(new:List AV):Local (rJ size bytes base len cap n new):=by
 unfold Rn.rJ
 repeat' (first
  |exact Local.pure _|exact Local.fail|exact Local.di _|exact Local.dy _ _
  |exact Local.fail|exact Local.iU _ _ _|exact Local.lX _ _ _|exact Local.firstCells _ _ _|exact Local.grown _ _ _ _ _|exact Local.qo _ _ _
  |refine Local.bh (fun _ _=>?_)|refine Local.bC (fun _=>?_)|refine Local.bind ?_ (fun _=>?_)
  |split)
theorem Local.pH(P:Program)(ts:Array TypeId)(s x:AV):Local (pH P ts s x):=by
 unfold Rn.pH
 repeat' (first
  |exact Local.pure _|exact Local.fail
  |exact Local.fail|exact Local.firstCells _ _ _|exact Local.rJ _ _ _ _ _ _ _
  |refine Local.bh (fun _ _=>?_)|refine Local.bC (fun _=>?_)|refine Local.bind ?_ (fun _=>?_)
  |split)
theorem Local.rR(P:Program)(ts:Array TypeId)(s x:AV):Local (rR P ts s x):=by
 unfold Rn.rR
 repeat' (first
  |exact Local.pure _|exact Local.fail
  |exact Local.fail|exact Local.lX _ _ _|exact Local.firstCells _ _ _
  |refine Local.bh (fun _ _=>?_)|refine Local.bC (fun _=>?_)|refine Local.bind ?_ (fun _=>?_)
  |split)
theorem Local.rS(r:Nat):Local (rS r):=by
 unfold Rn.rS
 repeat' (first
  |exact Local.pure _|exact Local.fail|exact Local.di _
  |exact Local.fail
  |refine Local.bh (fun _ _=>?_)|refine Local.bC (fun _=>?_)|refine Local.bind ?_ (fun _=>?_)
  |split)
theorem Local.rT(P:Program)(k:TypeId)(a x:AV):Local (rT P k a x):=by
 unfold Rn.rT
 repeat' (first
  |exact Local.pure _|exact Local.fail|exact Local.di _
  |exact Local.fail
  |refine Local.bh (fun _ _=>?_)|refine Local.bC (fun _=>?_)|refine Local.bind ?_ (fun _=>?_)
  |split)
theorem Local.tX(r:Nat)(a b:AV)(l:List (AV×AV))(c:Nat)(f:Option (Nat×AV)):Local (tX r a b l c f):=by
 unfold Rn.tX
 repeat' (first
  |exact Local.pure _|exact Local.fail|exact Local.dy _ _
  |exact Local.fail
  |refine Local.bh (fun _ _=>?_)|refine Local.bC (fun _=>?_)|refine Local.bind ?_ (fun _=>?_)
  |split)
theorem Local.vU(r:Nat)(a b:AV)(l:List (AV×AV))(f:Option (Nat×AV)):Local (vU r a b l f):=by
 unfold Rn.vU
 repeat' (first
  |exact Local.pure _|exact Local.fail|exact Local.dy _ _
  |exact Local.fail
  |refine Local.bh (fun _ _=>?_)|refine Local.bC (fun _=>?_)|refine Local.bind ?_ (fun _=>?_)
  |split)
theorem Local.rN(P:Program)(t:TypeId)(x k:AV)(ok:Bool):Local (rN P t x k ok):=by
 unfold Rn.rN
 repeat' (first
  |exact Local.pure _|exact Local.fail
  |exact Local.fail|exact Local.rT _ _ _ _
  |refine Local.bh (fun _ _=>?_)|refine Local.bC (fun _=>?_)|refine Local.bind ?_ (fun _=>?_)
  |split)
theorem Local.qF(P:Program)(t:TypeId)(m k v:AV):Local (qF P t m k v):=by
 unfold Rn.qF
 repeat' (first
  |exact Local.pure _|exact Local.fail|exact Local.di _
  |exact Local.fail|exact Local.tX _ _ _ _ _ _|exact Local.vU _ _ _ _ _
  |refine Local.bh (fun _ _=>?_)|refine Local.bC (fun _=>?_)|refine Local.bind ?_ (fun _=>?_)
  |split)
theorem Local.sl(P:Program)(ts:Array TypeId)(x:AV):Local (sl P ts x):=by
 unfold Rn.sl
 repeat' (first
  |exact Local.pure _|exact Local.fail|exact Local.lift _
  |exact Local.fail|exact Local.rS _
  |refine Local.bh (fun _ _=>?_)|refine Local.bC (fun _=>?_)|refine Local.bind ?_ (fun _=>?_)
  |split)
theorem Local.rU(P:Program)(ts:Array TypeId)(x:AV):Local (rU P ts x):=by
 unfold Rn.rU
 repeat' (first
  |exact Local.pure _|exact Local.fail|exact Local.lift _|exact Local.lq _
  |exact Local.fail|exact Local.lX _ _ _
  |refine Local.bh (fun _ _=>?_)|refine Local.bC (fun _=>?_)|refine Local.bind ?_ (fun _=>?_)
  |split)
theorem Local.rK(P:Program)(b:Builtin)(ts:Array TypeId)(l:List AV):Local (rK P b ts l):=by
 unfold Rn.rK
 repeat' (first
  |exact Local.pure _|exact Local.fail|exact Local.lift _
  |exact Local.fail|exact Local.pH _ _ _ _|exact Local.rR _ _ _ _|exact Local.sl _ _ _|exact Local.rU _ _ _
  |refine Local.bh (fun _ _=>?_)|refine Local.bC (fun _=>?_)|refine Local.bind ?_ (fun _=>?_)
  |split)
theorem Local.qw{call:bf}(dL:∀t a,Local (call t a))(n o k:Nat):Local (qw call n o k):=by
 unfold Rn.qw
 repeat' (first
  |exact Local.pure _|exact Local.fail
  |exact dL _ _
  |refine Local.bh (fun _ _=>?_)|refine Local.bC (fun _=>?_)|refine Local.bind ?_ (fun _=>?_)
  |split)
theorem Local.ju{call:bf}(dL:∀t a,Local (call t a))(f:AV)(l:List AV):Local (ju call f l):=by
 unfold Rn.ju
 repeat' (first
  |exact Local.pure _|exact Local.fail
  |exact dL _ _
  |refine Local.bh (fun _ _=>?_)|refine Local.bC (fun _=>?_)|refine Local.bind ?_ (fun _=>?_)
  |split)
theorem Local.Ac(P:Program){call:bf}(dL:∀t a,Local (call t a))(t:Tr AV)(op:Op):Local (Ac P call t op):=by
 unfold Rn.Ac Rn.cW
 split<;>simp only[nY.val]<;>(first|unfold Rn.pT|unfold Rn.tY|unfold Rn.BS|unfold Rn.uh|unfold Rn.tP|unfold Rn.td|unfold Rn.o5|unfold Rn.qG|unfold Rn.ti|unfold Rn.kK|unfold Rn.uV|unfold Rn.tk|unfold Rn.tb|unfold Rn.tj|unfold Rn.tl|unfold Rn.te|unfold Rn.qH|unfold Rn.tf|unfold Rn.wB|unfold Rn.oA|unfold Rn.wD|unfold Rn.qB|unfold Rn.mC|unfold Rn.wg|unfold Rn.wE|unfold Rn.wF|unfold Rn.vV|unfold Rn.tm|unfold Rn.oJ|unfold Rn.mN|unfold Rn.tE|unfold Rn.NB)<;>(repeat' (first|exact Local.pure _|exact Local.fail|exact Local.lift _|exact Local.lq _|exact Local.di _|exact Local.dy _ _|exact Local.gR _|exact dL _ _|exact Local.iU _ _ _|exact Local.lX _ _ _|exact Local.newRow _|exact Local.loadVar _ _ _ _|exact Local.qA _ _ _ _|exact Local.loadAt _ _ dL _|exact Local.storeVar _ _ _ _ _|exact Local.buildSlice _ _ _ _|exact Local.makeSlice _ _ _ _|exact Local.firstCells _ _ _|exact Local.grown _ _ _ _ _|exact Local.qo _ _ _|exact Local.rJ _ _ _ _ _ _ _|exact Local.pH _ _ _ _|exact Local.rR _ _ _ _|exact Local.rS _|exact Local.rT _ _ _ _|exact Local.tX _ _ _ _ _ _|exact Local.vU _ _ _ _ _|exact Local.rN _ _ _ _ _|exact Local.qF _ _ _ _ _|exact Local.sl _ _ _|exact Local.rU _ _ _|exact Local.rK _ _ _ _|exact Local.toText _ _ _ _ _|exact Local.zeroOf _ _|exact Local.toZero _ _ _ _ _|exact Local.ael _ _ _|exact Local.aem _|exact Local.aen _|exact Local.ju dL _ _|refine Local.bh (fun _ _=>?_)|refine Local.bC (fun _=>?_)|refine Local.bind ?_ (fun _=>?_)|split))
end Go.Rn
namespace Go.Rn
variable {α:Type} {m:M α} {s:AS} {i:Nat}
theorem qp{k m:Nat}{l:List Nat}:k∈below m l↔k∈l/\k<m:=by
  have h1 : ∀l:List Nat,k∈pK m l↔k∈l/\k<m:=by
    intro l
    induction l with
    |nil=>simp[pK]
    | cons x l ih=>
      have e:pK m (x::l)=if m<=x then pK m l else x::pK m l:=by
        show @Bool.rec (fun _=>List Nat) (pK m l) (x::pK m l) (not (Nat.ble m x))=_
        by_cases h:m<=x
        · have:Nat.ble m x=true:=by rw[Nat.ble_eq];exact h
          rw[this,if_pos h];rfl
        · have:Nat.ble m x=false:=by
            cases q:Nat.ble m x with
            |false=>rfl
            |true=>rw[Nat.ble_eq] at q;exact absurd q h
          rw[this,if_neg h];rfl
      rw[e]
      by_cases h:m<=x
      · rw[if_pos h,ih]
        constructor
        · rintro ⟨a,b⟩;exact⟨List.mem_cons_of_mem _ a,b⟩
        · rintro ⟨a,b⟩
          rcases List.mem_cons.1 a with rfl|a
          · omega
          · exact⟨a,b⟩
      · rw[if_neg h,List.mem_cons,ih,List.mem_cons]
        constructor
        · rintro (rfl|⟨a,b⟩)
          · exact⟨.inl rfl,by omega⟩
          · exact⟨.inr a,b⟩
        · rintro ⟨rfl|a,b⟩
          · exact .inl rfl
          · exact .inr ⟨a,b⟩
  have e:below m l=if m=0 then[] else pK m l:=by
    show @Bool.rec (fun _=>List Nat) (pK m l) [] (Nat.beq m 0)=_
    rw[EX];by_cases h:m=0
    · rw[if_pos h,if_pos (by rw[beq_eq];exact h)]
    · rw[if_neg h,if_neg (by rw[beq_eq];exact h)]
  rw[e]
  by_cases h:m=0
  · rw[if_pos h];subst h;simp
  · rw[if_neg h,h1]
theorem Kx{s2:AS}{x:α×cT}(h:alone i m s= .ok x s2):
    ∃ a s1,m ⟨s.h,s.nx,s.nx,[],[]⟩= .ok a s1/\x=(a,⟨i,below s.nx s1.rd,below s.nx s1.wr,s.nx,s1.nx⟩)/\
      s2=⟨s1.h,s1.nx,s.mark,below s.mark s1.rd++s.rd,below s.mark s1.wr++s.wr⟩:=by
  obtain⟨hh,nx,mark,rd,wr⟩:=s
  have e:alone i m ⟨hh,nx,mark,rd,wr⟩=forced nx fun lo=>
    @R.rec α (fun _=>R (α×cT)) .bad (fun a s1=>
      @AS.rec (fun _=>R (α×cT)) (fun h1 ep _ fY ly=>forced ep fun hi=>
        .ok (a,⟨i,below lo fY,below lo ly,lo,hi⟩) ⟨h1,hi,mark,below mark fY++rd,below mark ly++wr⟩) s1)
      (m ⟨hh,lo,lo,[],[]⟩):=rfl
  rw[e,rI] at h
  cases hm:m ⟨hh,nx,nx,[],[]⟩ with
  |bad=>rw[hm] at h;cases h
  | ok a s1=>
    rw[hm] at h
    obtain⟨h1,ep,Gl,fY,ly⟩:=s1
    have h':forced ep (fun hi=>R.ok (a,(⟨i,below nx fY,below nx ly,nx,hi⟩:cT)) (⟨h1,hi,mark,below mark fY++rd,below mark ly++wr⟩:AS))= .ok x s2:=h
    rw[rI] at h'
    cases h'
    exact⟨a,⟨h1,ep,Gl,fY,ly⟩,by first|exact hm|rfl,rfl,rfl⟩
theorem Ts{s1:AS}{a:α}(h:m ⟨s.h,s.nx,s.nx,[],[]⟩= .ok a s1):
    alone i m s= .ok (a,⟨i,below s.nx s1.rd,below s.nx s1.wr,s.nx,s1.nx⟩) ⟨s1.h,s1.nx,s.mark,below s.mark s1.rd++s.rd,below s.mark s1.wr++s.wr⟩:=by
  obtain⟨hh,nx,mark,rd,wr⟩:=s
  have e:alone i m ⟨hh,nx,mark,rd,wr⟩=forced nx fun lo=>
    @R.rec α (fun _=>R (α×cT)) .bad (fun a s1=>
      @AS.rec (fun _=>R (α×cT)) (fun h1 ep _ fY ly=>forced ep fun hi=>
        .ok (a,⟨i,below lo fY,below lo ly,lo,hi⟩) ⟨h1,hi,mark,below mark fY++rd,below mark ly++wr⟩) s1)
      (m ⟨hh,lo,lo,[],[]⟩):=rfl
  rw[e,rI,h]
  obtain⟨h1,ep,Gl,fY,ly⟩:=s1
  show forced ep (fun hi=>R.ok (a,(⟨i,below nx fY,below nx ly,nx,hi⟩:cT)) (⟨h1,hi,mark,below mark fY++rd,below mark ly++wr⟩:AS))=_
  rw[rI]
theorem Local.alone(i:Nat)(hm:Local m):Local (alone i m):=by
 intro s v s2 fi h
 obtain⟨a,s1,h1,rfl,rfl⟩:=Kx h
 obtain⟨dr,dw,d,x⟩:=hm ⟨s.h,s.nx,s.nx,[],[]⟩ a s1 ⟨Nat.le_refl _,fi.nx⟩ h1
 have er:s1.rd=dr:=by have:=d.rd;simpa using this
 have ew:s1.wr=dw:=by have:=d.wr;simpa using this
 refine⟨below s.mark dr,below s.mark dw,⟨by show below s.mark s1.rd++s.rd=_;rw[er],by show below s.mark s1.wr++s.wr=_;rw[ew],d.nx,d.top,rfl,?_,?_,d.na⟩,?_⟩
 ·intro k hk hn
  exact d.same k (Nat.lt_of_lt_of_le hk fi.mark) (fun e=>hn (qp.2 ⟨e,hk⟩))
 ·intro k hk
  obtain⟨a,b⟩:=qp.1 hk
  exact qp.2 ⟨d.sub k a,b⟩
 ·intro A m0 t ag hA
  obtain⟨t1,e1,al⟩:=x A m0 ⟨t.h,t.nx,t.nx,[],[]⟩ ⟨ag.nx,ag.nx,Nat.le_trans ag.low fi.mark,ag.is⟩
   (fun k hk cQ=>hA k (qp.2 ⟨hk,Nat.lt_of_lt_of_le cQ ag.low⟩) cQ)
  have er':t1.rd=dr:=by have:=al.rd;simpa using this
  have ew':t1.wr=dw:=by have:=al.wr;simpa using this
  have hr:=Ts (i:=i) (s:=t) e1
  rw[er',ew', ←ag.nx, ←ag.mark, ←al.sd.nx] at hr
  rw[er,ew]
  refine⟨_,hr,⟨rfl,rfl,ag.low,al.sd.is⟩,rfl,rfl,fun k hk hn=>al.same k hk (fun e=>hn (qp.2 ⟨e,Nat.lt_of_lt_of_le hk ag.low⟩)),al.na⟩
theorem Local.fL(P:Program){call:bf}(dL:∀t a,Local (call t a))(nt:Nat)(ops:Array Oper)(o:Oper)(t:Tr AV):Local (fL P call nt ops o t):=by
 have hv:∀t op,Local ((cW P op).val call t):=fun t op=>Local.Ac P dL t op
 unfold Rn.fL tZ
 split<;>simp only[nY.val]
 ·unfold nZ
  refine Local.bind (hv _ _) (fun _=>Local.lift _)
 ·unfold o6
  rename_i g _
  refine Local.bC (fun _=>?_)
  cases lZ ops g t
  ·exact Local.lift _
  ·exact Local.bind (hv _ _) (fun _=>Local.lift _)
theorem Local.iV(P:Program){call:bf}(dL:∀t a,Local (call t a))(nt:Nat)(ops:Array Oper):∀(l:List Oper) (t:Tr AV),Local (iV P call nt ops l t)
 |[],t=>Local.pure t
 |o::l,t=>Local.bind (Local.fL P dL nt ops o t) (fun t=>Local.iV P dL nt ops l t)
theorem Local.kG(P:Program){call:bf}(dL:∀t a,Local (call t a))(nt:Nat)(ops:Array Oper):∀(l:List Oper) (i:Nat) (t:Tr AV),Local (kG P call nt ops l i t)
 |[],_,_=>Local.pure _
 |o::l,i,t=>Local.bind (Local.alone i (Local.fL P dL nt ops o t)) (fun x=>Local.bind (Local.kG P dL nt ops l (i+1) x.1) (fun _=>Local.pure _))
theorem Local.oK(P:Program){call:bf}(dL:∀t a,Local (call t a))(nt:Nat)(ops:Array Oper)(t:Tr AV):Local (oK P call nt ops t):=
 Local.bind (Local.kG P dL nt ops _ _ _) (fun _=>Local.bC (fun _=>Local.pure _))
theorem Local.getLoop(l:Nat):Local (getLoop l):=by
 unfold Rn.getLoop
 repeat' (first
  |exact Local.pure _|exact Local.fail|exact Local.lift _|exact Local.lq _|exact Local.di _|exact Local.dy _ _|exact Local.gR _
  |refine Local.bh (fun _ _=>?_)|refine Local.bC (fun _=>?_)|refine Local.bind ?_ (fun _=>?_)
  |split)
theorem Local.kA(l:Nat):Local (kA l):=by
 unfold Rn.kA
 repeat' (first
  |exact Local.pure _|exact Local.fail|exact Local.lift _|exact Local.lq _|exact Local.di _|exact Local.dy _ _|exact Local.gR _|exact Local.getLoop _
  |refine Local.bh (fun _ _=>?_)|refine Local.bC (fun _=>?_)|refine Local.bind ?_ (fun _=>?_)
  |split)
theorem Local.YG(P:Program){call:bf}(dL:∀t a,Local (call t a))(it:Item)(fn:FuncId)(t:Tr AV)(nt:Nat)(d:List Nat)(r:Option Nat)(k:List Item):Local ((ua P it).val call fn t nt d r k):=by
 cases it<;>simp only[ua]<;>(try simp only[nY.val])
 case code c=>
  unfold NC
  split<;>simp only<;>(first|(unfold qS;exact Local.pure _)|(unfold o7;exact Local.pure _)|(unfold Ot;exact Local.pure _)|(unfold Gj;exact Local.fail)|(unfold Gi;exact Local.bh (fun _ _=>Local.bh (fun _ _=>Local.pure _)))|(unfold yY;split<;>exact Local.pure _)|(unfold yZ;split<;>exact Local.pure _)|(unfold Fx;exact Local.bind (Local.iV P dL _ _ _ _) (fun _=>Local.pure _))|(unfold E0;exact Local.bind (Local.oK P dL _ _ _) (fun _=>Local.pure _))|skip)
  unfold rV
  repeat' (first
   |exact Local.pure _|exact Local.fail|exact Local.lift _|exact Local.lq _|exact Local.di _|exact Local.dy _ _|exact Local.gR _
   |exact Local.ju dL _ _|exact dL _ _|exact Local.getLoop _|exact Local.kA _
   |refine Local.bh (fun _ _=>?_)|refine Local.bC (fun _=>?_)|refine Local.bind ?_ (fun _=>?_)
   |split)
 case beginRound=>
  unfold wG
  repeat' (first
   |exact Local.pure _|exact Local.fail|exact Local.lift _|exact Local.lq _|exact Local.di _|exact Local.dy _ _|exact Local.gR _|exact Local.getLoop _
   |refine Local.bh (fun _ _=>?_)|refine Local.bC (fun _=>?_)|refine Local.bind ?_ (fun _=>?_)
   |split)
 all_goals (first|exact Local.pure _|exact Local.fail)
theorem Local.kH(P:Program){call:bf}(dL:∀t a,Local (call t a))(fr:AF):Local (kH P call fr):=by
 obtain⟨fn,t,nt,todo,d,r⟩:=fr
 cases todo with
 |nil=>exact Local.pure _
 |cons it k=>exact Local.YG P dL it fn t nt d r k
theorem Local.tp(P:Program)(t:Tr AV)(r:ResultVar):Local (tp P t r):=by
 unfold Rn.tp
 repeat' (first
  |exact Local.pure _|exact Local.fail|exact Local.lift _|exact Local.lq _|exact Local.di _|exact Local.dy _ _|exact Local.gR _|exact Local.loadVar _ _ _ _
  |refine Local.bh (fun _ _=>?_)|refine Local.bC (fun _=>?_)|refine Local.bind ?_ (fun _=>?_)
  |split)
theorem Local.pG(P:Program)(t:Tr AV):∀l:List ResultVar,Local (pG P t l)
 |[]=>Local.pure _
 |r::l=>Local.bind (Local.tp P t r) (fun _=>Local.bind (Local.pG P t l) (fun _=>Local.pure _))
theorem Local.oL:∀l:List Nat,Local (oL l)
  |[]=>Local.pure _
  | d::l=>Local.bind (Local.di d) (fun o=>by
    split
    · exact Local.bind (Local.dy _ _) (fun _=>Local.oL l)
    · exact Local.fail)
theorem Local.finish(P:Program)(rs:List ResultVar)(fr:AF)(j:Option Code):Local (finish P rs fr j):=by
 unfold Rn.finish
 repeat' (first
  |exact Local.pure _|exact Local.fail|exact Local.lift _|exact Local.lq _|exact Local.di _|exact Local.dy _ _|exact Local.gR _|exact Local.oL _|exact Local.pG _ _ _
  |refine Local.bh (fun _ _=>?_)|refine Local.bC (fun _=>?_)|refine Local.bind ?_ (fun _=>?_)
  |split)
theorem Local.endRound(l:Nat)(j:Option Code):Local (endRound l j):=by
 unfold Rn.endRound
 repeat' (first
  |exact Local.pure _|exact Local.fail|exact Local.lift _|exact Local.lq _|exact Local.di _|exact Local.dy _ _|exact Local.gR _|exact Local.getLoop _
  |refine Local.bh (fun _ _=>?_)|refine Local.bC (fun _=>?_)|refine Local.bind ?_ (fun _=>?_)
  |split)
end Go.Rn
namespace Go.Rn
variable {s2 s1:AS} {qe dw xE dr:List Nat}
theorem sJ.trans{s:AS}(d:sJ s s1 dr dw)(d':sJ s1 s2 xE qe):sJ s s2 (xE++dr) (qe++dw):=by
 refine⟨by rw[d'.rd,d.rd,List.append_assoc],by rw[d'.wr,d.wr,List.append_assoc],Nat.le_trans d.nx d'.nx,d'.top,d'.mark.trans d.mark,?_,?_,?_⟩
 ·intro k hk hn
  have gf:k ∉ qe:=fun e=>hn (List.mem_append.2 (.inl e))
  have mq:k ∉ dw:=fun e=>hn (List.mem_append.2 (.inr e))
  exact(d'.same k (by rw[d.mark];exact hk) gf).trans (d.same k hk mq)
 ·intro k hk
  rcases List.mem_append.1 hk with e|e
  ·exact List.mem_append.2 (.inl (d'.sub k e))
  ·exact List.mem_append.2 (.inr (d.sub k e))
 ·intro k hk ht
  exact(d'.na k hk ht).trans (d.na k (Nat.le_trans d'.nx hk) ht)
theorem xb.trans{A:Nat->Prop}{m0:Nat}{t t1 t2:AS}(hx:s1.nx<=s2.nx)(al:xb A m0 s1 t t1 dr dw)(pq:xb A m0 s2 t1 t2 xE qe):xb A m0 s2 t t2 (xE++dr) (qe++dw):=by
 refine⟨pq.sd,by rw[pq.rd,al.rd,List.append_assoc],by rw[pq.wr,al.wr,List.append_assoc],?_,?_⟩
 ·intro k hk hn
  have gf:k ∉ qe:=fun e=>hn (List.mem_append.2 (.inl e))
  have mq:k ∉ dw:=fun e=>hn (List.mem_append.2 (.inr e))
  exact(pq.same k hk gf).trans (al.same k hk mq)
 ·intro k hk ht
  exact(pq.na k hk ht).trans (al.na k (Nat.le_trans hx hk) ht)
noncomputable section
end
end Go.Rn
namespace Go.Rn
theorem yo{n:Nat}:∀{l:List Nat},pY n l=true↔n∈l
  |[]=>by simp[pY]
  | x ::l=>by
    simp only[pY]
    cases h:Nat.beq x n with
    |true=>rw[beq_eq] at h;subst h;simp
    | false=>
      have:¬x=n:=by rw[←beq_eq,h];simp
      simp only[yo (l:=l),List.mem_cons]
      constructor
      · exact .inr
      · rintro (e|e)
        · exact absurd e.symm this
        · exact e
end Go.Rn
