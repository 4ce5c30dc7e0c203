import Derived.Test.YtphenfaomchomaaGreatDoorRnGE
set_option maxRecDepth 100000
set_option maxHeartbeats 8000000
set_option linter.unusedSimpArgs false
set_option linter.unusedVariables false
namespace Go.Rn
open Go.RowKit
variable {v:AV} {n k J o off:Nat} {x:TypeId×Operand×Operand} {cs:List AV} {α:Type} {B:aI} {rs:List ResultVar} {ik:IntKind} {cap:bZ} {ag b:Bool} {a:Nat×Nat} {T A c X:Prop} {x':Met} {ty:TypeId} {sp:Sp} {l:List<|Nat×AV} {Q:Tr AV->List Nat->Option Code->AS->Prop} {F:Nat->Option (List AV)}
noncomputable section
inductive Pl where
 |no
 |st (k:Nat) (p:Pl)
 |rg (p:Pl)
 |go (n:Nat) (p:Pl)
 |en (p:Pl)
 |fk (p q:Pl)
 |vl (v:AV) (p:Pl)
 |kn (v:AV) (p:Pl)
 |kp (c:Prop) (d:Decidable c) (p q:Pl)
 |cu (v:AV) (s2:AS) (p:Pl)
 |cg (v:AV) (F:AS->AS) (Q:AS->Prop) (p:Pl)
 |ap (α:Type) (enc:α->List AV) (l:List α) (c:α) (p:Pl)
 |al (α:Type) (enc:α->List AV) (l L:List α) (p:Pl)
 |ix (p:Pl)
 |eF (p:Pl)
 |ld (cs:List AV) (p:Pl)
 |XM (b:Bool) (p q:Pl)
 |eG (cs:List AV) (p:Pl)
 |np (o:ae) (p:Pl)
 |rm (p:Pl)
 |ls (l:List<|Nat×AV) (o:List<|Nat×Option ae) (nx:Nat) (p:Pl)
 |rn (l0:List<|Nat×AV) (o0:List<|Nat×Option ae) (l:List<|Nat×AV) (o:List<|Nat×Option ae) (bx nx:Nat) (p:Pl)
 |bk (l:List<|Nat×AV) (o:List<|Nat×Option ae) (nx:Nat) (p:Pl)
 |cy (v:AV) (s2:AS) (p:Pl)
 |K5 (p:Pl)
 |kt (y v':AV) (p:Pl)
 |nt (v:Option AV) (res:AV->AV) (p:Pl)
 |XN (m:List<|Int×Int) (p q:Pl)
 |K6 (m:List<|Int×Int) (p:Pl)
 |so (p:Pl)
 |s3 (p:Pl)
 |ao (L1 L2 l:List AV) (p:Pl)
 |an (L1 L2 l:List AV) (p:Pl)
 |il (p:Pl)
 |rt (k:Nat) (p:Pl)
 |cut (p:Pl)
inductive K7 where
 |fr (f nt:Nat) (K:List Item) (t:Tr AV) (s:AS)
 |rg (f nt:Nat) (K:List Item) (ops:Array Oper) (D:Option<|List Met) (i:Nat) (t:Tr AV) (s:AS)
structure Env where
 P:Program
 sp:Sp
 F:Nat->Option (List AV)
 uq:FuncId->Option (List AV->Option AV)
 jn:FuncId->Bool
 ck:AS->Bool
 cs:AS->AS
 lo:Nat
 fg:Bool
 tt:FuncId->Option (Nat×(AV->List AV->Option (AV×AV)))
 tn:FuncId->Option (Nat×(List AV->Option (Option AV×(AV->AV))))
 n0:Nat
def tO(nx:Nat)(l:List<|Nat×AV)(o:List<|Nat×Option ae):Prop:=∀r:Nat->Nat,(∀k,k<nx->r k=k)->(∀k,top<=k->r k=k)->(∀p∈l,bp r p.2 p.2)/\(∀p∈o,∀x,p.2=some x->lW r x x)
def hU(F:Nat->Option (List AV))(lo bx:Nat)(l0:List<|Nat×AV)(o0:List<|Nat×Option ae)(l:List<|Nat×AV)(o:List<|Nat×Option ae)(nx:Nat):Prop:=
 ∃(fz:lF) (r:Nat->Nat),(∀k,k<lo->r k=k)/\(∀k,nx<=k->k<top->bx<=r k/\r k<top)/\(∀k,top<=k->r k=k)/\nx<=top/\(∀p∈l,p.1<top/\∃x,(p.1,x)∈l0/\jF fz r x p.2)/\
  (∀p∈o,p.1<top/\∀y,p.2=some y->r p.1<top/\y.kj=true/\∃x,(r p.1,some x)∈o0/\fM x y/\fD fz r x y)/\
  (∀p∈o,∀q∈o,p.2≠none->q.2≠none->r p.1=r q.1->p.1=q.1)/\
  (∀p∈fz,p.1<top/\F p.2.1=some p.2.2/\∃N t z,(p.1,some<|.cells N t z)∈o0/\∀i x,p.2.2[i]? =some x->i<N/\cellAt t z i=some x/\x.bR=true/\x.cP=true)/\
  (∀p∈fz,∀q∈o,q.2≠none->r q.1≠p.1)
def XO(n k:Nat)(v:AV)(s:AS):AS:=fp n (some<|.tok k v)<|aV n s
def nwS(k:Nat)(v:AV)(s:AS):AS:=⟨s.h.put s.nx<|some<|.tok k v,s.nx+1,s.mark,s.rd,s.wr⟩
def XP(res:AV->AV)(s:AS):Option AV->AV
 |none=>res<|.ptr none
 |some _=>res<|.ptr<|some (s.nx,0)
def XQ(k:Nat)(s:AS):Option AV->AS
 |none=>s
 |some v=>nwS k v s
structure Env.Ok (E:Env):Prop where
 uq:∀g val args v s n,E.uq g=some val->val args=some v->E.ck s=true->aZ E.P E.sp E.F (n+1) (.fn g) args s= .ok v (E.cs s)
 tt:∀g q m v rest y v' s n,E.tt g=some q->E.ck s=true->Nat.ble E.n0 m=true->Nat.blt m (E.cs s).nx=true->Nat.blt m top=true->(E.cs s).h.get m=some (.tok q.1 v)->q.2 v rest=some (y,v')->
  aZ E.P E.sp E.F (n+1) (.fn g) (.ptr (some (m,0))::rest) s= .ok y (XO m q.1 v'<|E.cs s)
 tn:∀g q args v res s n,E.tn g=some q->E.ck s=true->Nat.blt (E.cs s).nx top=true->q.2 args=some (v,res)->aZ E.P E.sp E.F (n+1) (.fn g) args s= .ok (XP res (E.cs s) v) (XQ q.1 (E.cs s) v)
 jn:∀g,E.jn g=true->False
def wo(o:Option α)(k:α->Prop):Prop:= @Option.rec α (fun _=>Prop) False k o
def wr(r:R α)(k:α->AS->Prop):Prop:= @R.rec α (fun _=>Prop) False k r
def wb(b:Bool)(k:Prop):Prop:= @Bool.rec (fun _=>Prop) False k b
def Kt:=AV->AS->Pl->Prop
def x8:=AF->AS->Pl->Prop
def Rec:=Nat->K7->Pl->List ResultVar->Kt->x8->Prop
def Ij(op:Op):Option<|BinOp×TypeId×Operand×Operand×TypeId:=match op with
 | .binOp o ty x y yt=>some (o,ty,x,y,yt)
 |_=>none
def callParts(op:Op):Option<|Operand×Array Operand×Array TypeId:=match op with
 | .call ⟨.value fo,xs,ts⟩=>some (fo,xs,ts)
 |_=>none
def PM(fi args ca:List AV):List AV:=match fi,ca with
 |[],[]=>args
 |_,_=>fi++args++ca
def PN(v:AV):Option<|FuncId×List AV×List AV:=match v with
 | .func (.func g) fi ca=>some (g,fi,ca)
 |_=>none
def asInt(v:AV):Option<|IntKind×Int:=match v with
 | .int k n=>some (k,n)
 |_=>none
def asSlice(v:AV):Option<|Option (Nat×Nat)×Nat×bZ:=match v with
 | .slice a n c=>some (a,n,c)
 |_=>none
def Pd(x:br):Option<|Nat×Nat×List Item×Tr AV:=match x with
 | .go ⟨f,t,nt,K,[],none⟩=>some (f,nt,K,t)
 |_=>none
def Pe(x:br):Option<|AF×Option Code:=match x with
 | .leave fr j=>some (fr,j)
 |_=>none
def NO(K:List Item):Option<|Array Oper×Bool×List Item:=match K with
 | .code (.region _ ops d)::K=>some (ops,d,K)
 |_=>none
def PO(o:BinOp)(a b:Int):Option Prop:=match o with
 | .lss=>some<|a<b
 | .leq=>some<|a<=b
 | .gtr=>some<|a>b
 | .geq=>some<|a>=b
 | .eql=>some<|a=b
 | .neq=>some<|a≠b
 |_=>none
def iz(D:Option<|List Met)(s:AS):AS:=match D with
 |none=>s
 |some _=>Jd s
def DR(D:Option<|List Met)(s s1:AS):AS:=match D with
 |none=>s1
 |some _=>Dv s s1
def Kl(D:Option<|List Met)(i:Nat)(s s1:AS):Option<|List Met:=match D with
 |none=>none
 |some acc=>some<|acc++[Kk i s s1]
def Wj(d:Bool):Option<|List Met:=match d with
 |true=>some []
 |false=>none
def PQ(P:Program)(YR:aJ)(nt:Nat)(ops:Array Oper)(D:Option<|List Met)(i n:Nat)(t:Tr AV):M<|Tr AV×Option (List Met):=match D with
 |none=>fun s=>match pw P YR nt ops i n t s with
  | .ok t s=>.ok (t,none) s
  | .bad=>.bad
 |some acc=>fun s=>match tN P YR nt ops i n t s with
  | .ok x s=>.ok (x.1,some<|acc++x.2) s
  | .bad=>.bad
def JQ(ops:Array Oper)(D:Option<|List Met):Bool:=match D with
 |none=>true
 |some acc=>qk (Region.before ops) acc acc
def Dw(n:Nat):Option Nat:=match n with
 |0=>none
 |n+1=>some n
def u9(t:Tr AV)(op:Op):Option<|FuncId×List AV:=match callParts op with
 |none=>none
 |some x=>match aG t x.1 with
  |none=>none
  |some fv=>match PN fv with
   |none=>none
   |some g=>match jU (aG t) x.2.1.toList with
    |none=>none
    |some args=>some (g.1,PM g.2.1 args g.2.2)
def NP(t:Tr AV)(op:Op):Option<|Nat×List AV:=match callParts op with
 |none=>none
 |some x=>match aG t x.1 with
  |some (.yield l)=>(match jU (aG t) x.2.1.toList with
   |none=>none
   |some args=>some (l,args))
  |_=>none
def Fl(op:Op):Option<|TypeId×Operand×Operand:=match op with
 | .indexAddr ty x y=>some (ty,x,y)
 |_=>none
def E4(op:Op):Option<|TypeId×Operand:=match op with
 | .load ty a=>some (ty,a)
 |_=>none
def Mg(op:Op):Option<|TypeId×Operand×Operand:=match op with
 | .store ty a x=>some (ty,a,x)
 |_=>none
def CI(op:Op):Option<|Operand×Operand×Array TypeId:=match op with
 | .call ⟨.builtin .append,xs,ts⟩=>match xs.toList with
  |[x,y]=>some (x,y,ts)
  |_=>none
 |_=>none
def PR(v:AV):Option<|Nat×Nat×Nat×Nat:=match v with
 | .slice (some (n,0)) len (.aq m k)=>some (n,len,m,k)
 |_=>none
def Oo(v:AV):Option Nat:=match v with
 | .slice (some (m,0)) 1 (.known 1)=>some m
 |_=>none
def CJ(P:Program)(ts:Array TypeId):Option<|Nat×Nat:=match ts[0]? with
 |some ty=>match P.underlying ty with
  |some (.slice e)=>match P.info? e with
   |some i=>match sK i&&(pt P ts[1]? && !(Nat.beq i.bytes 0)) with
    |true=>some (i.size,i.bytes)
    |false=>none
   |none=>none
  |_=>none
 |none=>none
def JR(v:AV):Option<|Nat×Nat×Nat:=match v with
 | .U n o k=>some (n,o,k)
 |_=>none
def Oq(v:AV):Option<|Nat×Nat:=match v with
 | .pG n o=>some (n,o)
 |_=>none
def rr(P:Program)(ty:TypeId):Option Nat:=match P.underlying ty with
 |some (.slice e)=>eD P e
 |_=>none
def Pf(P:Program)(ty:TypeId):Option<|Nat×Nat:=match P.underlying ty with
 |some (.array n e)=>(eD P e).map fun k=>(n,k)
 |_=>none
def cellsOf(o:Option ae)(off k:Nat):Option<|List AV:=match o with
 |some (.cells m t z)=>(match Nat.ble (off+k) m with|true=>lS t z k off|false=>none)
 |_=>none
def xI(o:Option ae)(off:Nat)(l:List AV):Option ae:=match o with
 |some (.cells m t z)=>(match (Nat.ble (off+l.length) m&&(Nat.ble m top&&l.all AV.bR)) with|true=>some (.cells m (Tr.fill l off t) z)|false=>none)
 |_=>none
def cG(F:Nat->Option (List AV))(n off k:Nat):Option<|List AV:=match F n with
 |some l=>(match Nat.ble (off+k) l.length with|true=>some ((l.drop off).take k)|false=>none)
 |none=>none
def xJ(k:Nat):Bool:=Nat.blt 0 k
def Gs(ag:Bool)(cs:List AV):Option AV:=match ag with
 |true=>some<|.agg cs
 |false=>one cs
def FI(P:Program)(ty:TypeId)(ag:Bool):Option Nat:=match ag with
 |true=>eD P ty
 |false=>some 1
def Je(o:Option ae):Bool:=match o with
 |none=>true
 |some o=>o.kj
def Km(dr:Bool)(s:AS)(h:Tr ae)(R W:List Nat):AS:=match dr with
 |true=>⟨h,s.nx+1,s.mark,R,W⟩
 |false=>⟨h,s.nx+1,s.mark,s.rd,s.wr⟩
def ya(v:AV):Option<|Nat×Nat×bZ:=match v with
 | .slice (some (n,0)) len cap=>some (n,len,cap)
 |_=>none
def Mh(op:Op):Option<|TypeId×Operand×Option Operand×Option Operand:=match op with
 | .slice ty x lo hi none=>some (ty,x,lo,hi)
 |_=>none
def L7(op:Op):Option<|TypeId×Operand×Operand×Operand:=match op with
 | .slice ty x none (some hi) (some mx)=>some (ty,x,hi,mx)
 |_=>none
def kept(c:bZ):Bool:=match c with
 | .lost=>false
 |_=>true
def C5(t:Tr AV)(o:Option Operand)(d:Int):Option Int:=match o with
 |none=>some d
 |some y=>match aG t y with
  |some (.int _ n)=>some n
  |_=>none
def alz(op:Op):Option<|TypeId×Operand×Operand:=match op with
 | .lookup ty x i false=>some (ty,x,i)
 |_=>none
def Mi(op:Op):Option<|TypeId×Operand×Operand:=match op with
 | .lookup ty x i true=>some (ty,x,i)
 |_=>none
def Ng(op:Op):Option<|TypeId×Operand×Operand×Operand:=match op with
 | .mapUpdate ty x i y=>some (ty,x,i,y)
 |_=>none
def JS(v:AV):Option Nat:=match v with
 | .map (some n)=>some n
 |_=>none
def Jf(P:Program)(ty:TypeId):Option<|TypeId×TypeId:=match P.underlying ty with
 |some (.map k e)=>some (k,e)
 |_=>none
def F4(k:IntKind):Bool:=match k with
 | .i64=>true
 |_=>false
def PS(v:Option AV):Bool:=match v with
 |some (.int .i64 (.ofNat 0))=>true
 |_=>false
def NQ(l:List AV):Option<|Nat×List AV:=match l with
 | .ptr (some (n,0))::r=>some (n,r)
 |_=>none
def Pg(o:Option ae):Option<|Nat×AV:=match o with
 |some (.tok k v)=>some (k,v)
 |_=>none
def XR(E:Env)(dr:Bool)(ih:Rec)(n:Nat)(nx:AV->AS->Pl->Prop)(s:AS)(t:Tr AV)(op:Op)(p:Pl):Prop:=match p with
 | .fk p q=>wo (Ij op) fun x=>wo (aG t x.2.2.1) fun a=>wo (aG t x.2.2.2.1) fun b=>wo (asInt a) fun a=>wo (asInt b) fun b=>wb (decide<|a.1=b.1)<|wo (PO x.1 a.2 b.2) fun c=>(c->nx (.bool true) s p)/\(¬c->nx (.bool false) s q)
 | .vl v p=>wr ((dI E.P op).val (aZ E.P E.sp E.F n) t s) fun v' s1=>v'=v/\nx v s1 p
 | .kn v p=>wo (u9 t op) fun x=>wo (Dw n) fun _=>wo (E.uq x.1) fun val=>wb (E.ck s)<|val x.2=some v/\nx v (E.cs s) p
 | .kp c d p q=>wo (u9 t op) fun x=>wo (Dw n) fun _=>wo (E.uq x.1) fun val=>wb (E.ck s)<|val x.2=some (.bool<|@decide c d)/\(c->nx (.bool true) (E.cs s) p)/\(¬c->nx (.bool false) (E.cs s) q)
 | .cu v s2 p=>wo (u9 t op) fun x=>aZ E.P E.sp E.F n (.fn x.1) x.2 s= .ok v s2/\nx v s2 p
 | .cg v F Q p=>wo (u9 t op) fun x=>(∀s,Q s->aZ E.P E.sp E.F n (.fn x.1) x.2 s= .ok v (F s))/\Q s/\nx v (F s) p
 | .ap _ enc l c p=>wo (CI op) fun x=>wo (aG t x.1) fun a=>wo (PR a) fun a=>wo (aG t x.2.1) fun b=>wo (Oo b) fun m=>wo (CJ E.P x.2.2) fun i=>wb (Nat.beq a.2.2.2 i.1&&(xJ i.1&&(Nat.blt a.1 s.nx&&(Nat.blt m s.nx&&(Nat.blt s.nx top&&(dr||Nat.beq s.mark 0))))))<|a.2.1=l.length/\a.2.2.1=l.length/\s.h.get a.1=some (aD enc l)/\s.h.get m=some (.cells (enc c).length (Tr.fill (enc c) 0 .nil) [])/\(∀x,(enc x).length=i.1/\(enc x).all AV.bR=true)/\2*(l.length+1)*i.2+4096*i.2<=room/\(l.length+1)*i.1<=top/\nx (.slice (some (s.nx,0)) (l++[c]).length<|.aq (l++[c]).length i.1) (Km dr s ((s.h.put a.1 none).put s.nx<|some<|aD enc<|l++[c]) [a.1,m] [a.1]) p
 | .ix p=>wo (Fl op) fun x=>wo (aG t x.2.1) fun a=>wo (asSlice a) fun a=>wo a.1 fun ad=>wo (aG t x.2.2) fun z=>wo (asInt z) fun z=>wo (rr E.P x.1) fun K=>wb (Nat.beq ad.2 0)<|0<=z.2/\z.2<(Int.ofNat a.2.1)/\nx (.ptr<|some (ad.1,z.2.toNat*K)) s p
 | .eF p=>wo (Fl op) fun x=>wo (aG t x.2.1) fun a=>wo (JR a) fun a=>wo (aG t x.2.2) fun z=>wo (asInt z) fun z=>wo (rr E.P x.1) fun K=>0<=z.2/\z.2<(Int.ofNat a.2.2)/\nx (.pG a.1<|a.2.1+z.2.toNat*K) s p
 | .ld cs p=>wo (E4 op) fun x=>wo (aG t x.2) fun a=>wo (addrOf a) fun a=>wo (qx E.P x.1) fun ag=>wo (FI E.P x.1 ag) fun k=>wb (xJ k)<|wb (Nat.blt a.1 s.nx)<|wo (Gs ag cs) fun v=>cellsOf (s.h.get a.1) a.2 k=some cs/\nx v (aV a.1 s) p
 | .XM b p q=>wo (E4 op) fun x=>wo (aG t x.2) fun a=>wo (addrOf a) fun a=>wo (qx E.P x.1) fun ag=>wb (!ag)<|wb (Nat.blt a.1 s.nx)<|cellsOf (s.h.get a.1) a.2 1=some [.bool b]/\(b=true->nx (.bool true) (aV a.1 s) p)/\(b=false->nx (.bool false) (aV a.1 s) q)
 | .eG cs p=>wo (E4 op) fun x=>wo (aG t x.2) fun a=>wo (Oq a) fun a=>wo (qx E.P x.1) fun ag=>wo (eD E.P x.1) fun _=>wo (FI E.P x.1 ag) fun k=>wo (Gs ag cs) fun v=>top<=a.1/\cG E.F a.1 a.2 k=some cs/\nx v s p
 | .np o p=>wo (Mg op) fun x=>wo (aG t x.2.1) fun a=>wo (addrOf a) fun a=>wo (aG t x.2.2) fun v=>wo (eD E.P x.1) fun k=>wb (Nat.beq v.cells.length k)<|wb (xJ k)<|wb (Nat.blt a.1 s.nx)<|wb (Nat.blt a.1 top)<|xI (s.h.get a.1) a.2 v.cells=some o/\nx qf (fp a.1 (some o)<|aV a.1 s) p
 | .rm p=>wo (Ij op) fun x=>wb (match x.1 with| .rem=>true|_=>false)<|wo (aG t x.2.2.1) fun a=>wo (aG t x.2.2.2.1) fun b=>wo (asInt a) fun a=>wo (asInt b) fun b=>wb (decide<|a.1=b.1)<|b.2≠0/\nx (.int a.1<|Int.tmod a.2 b.2) s p
 | .al _ enc l L p=>wo (CI op) fun x=>wo (aG t x.1) fun a=>wo (ya a) fun a=>wo (aG t x.2.1) fun b=>wo (JR b) fun b=>wo (CJ E.P x.2.2) fun i=>wb (O0 i.1 a.2.1 a.2.2&&(Nat.blt a.1 s.nx&&(Nat.blt s.nx top&&(dr||Nat.beq s.mark 0))))<|a.2.1=l.length/\s.h.get a.1=some (aD enc l)/\top<=b.1/\cG E.F b.1 b.2.1 (b.2.2*i.1)=some (L.map enc).flatten/\b.2.2=L.length/\(∀x,(enc x).length=i.1/\(enc x).all AV.bR=true)/\2*(l.length+L.length)*i.2+4096*i.2<=room/\(l.length+L.length)*i.1<=top/\nx (.slice (some (s.nx,0)) (l++L).length<|.aq (l++L).length i.1) (Km dr s ((s.h.put a.1 none).put s.nx<|some<|aD enc<|l++L) [a.1] [a.1]) p
 | .cy v s2 p=>wo (NP t op) fun x=>aZ E.P E.sp E.F n (.round x.1) x.2 s= .ok v s2/\nx v s2 p
 | .K5 p=>wo (Fl op) fun x=>wo (aG t x.2.1) fun a=>wo (addrOf a) fun a=>wo (aG t x.2.2) fun z=>wo (asInt z) fun z=>wo (Pf E.P x.1) fun K=>0<=z.2/\z.2<(Int.ofNat K.1)/\nx (.ptr<|some (a.1,a.2+z.2.toNat*K.2)) s p
 | .kt y v' p=>wo (u9 t op) fun x=>wo (Dw n) fun _=>wo (E.tt x.1) fun q=>wo (NQ x.2) fun z=>wo (Pg<|(E.cs s).h.get z.1) fun u=>wb (E.ck s&&(Nat.beq q.1 u.1&&(Nat.ble E.n0 z.1&&(Nat.blt z.1 (E.cs s).nx&&Nat.blt z.1 top))))<|q.2 u.2 z.2=some (y,v')/\nx y (XO z.1 q.1 v'<|E.cs s) p
 | .nt v res p=>wo (u9 t op) fun x=>wo (Dw n) fun _=>wo (E.tn x.1) fun q=>wb (E.ck s&&Nat.blt (E.cs s).nx top)<|q.2 x.2=some (v,res)/\nx (XP res (E.cs s) v) (XQ q.1 (E.cs s) v) p
 | .XN m p q=>wo (Mi op) fun x=>wo (aG t x.2.1) fun a=>wo (JS a) fun n=>wo (aG t x.2.2) fun i=>wo (asInt i) fun i=>wo (Jf E.P x.1) fun y=>wb (ox E.P 10000 y.1 (.int .i64 i.2)&&(plainKey E.P y.1 (.int .i64 i.2)&&(F4 i.1&&(PS (qj E.P y.2)&&Nat.blt n s.nx))))<|s.h.get n=some (bA m)/\(lG m i.2=true->nx (.tuple [.int .i64<|getM m i.2,.bool true]) (aV n s) p)/\(lG m i.2=false->nx (.tuple [.int .i64 0,.bool false]) (aV n s) q)
 | .K6 m p=>wo (Ng op) fun x=>wo (aG t x.2.1) fun a=>wo (JS a) fun n=>wo (aG t x.2.2.1) fun i=>wo (asInt i) fun i=>wo (aG t x.2.2.2) fun v=>wo (asInt v) fun v=>wo (Jf E.P x.1) fun y=>wb (ox E.P 10000 y.1 (.int .i64 i.2)&&(plainKey E.P y.1 (.int .i64 i.2)&&(F4 i.1&&(F4 v.1&&(Nat.blt n s.nx&&Nat.blt n top)))))<|s.h.get n=some (bA m)/\nx (.tuple []) (fp n (some<|bA<|fO m i.2 v.2)<|aV n s) p
 | .so p=>wo (Mh op) fun x=>wo (aG t x.2.1) fun a=>wo (ya a) fun a=>wo (rr E.P x.1) fun _=>wo (C5 t x.2.2.1 0) fun lo=>wo (C5 t x.2.2.2<|Int.ofNat a.2.1) fun hi=>wb (kept a.2.2)<|lo=0/\0<=hi/\hi<=Int.ofNat (jd a.2.1 a.2.2)/\nx (.slice (some (a.1,0)) hi.toNat a.2.2) s p
 | .s3 p=>wo (L7 op) fun x=>wo (aG t x.2.1) fun a=>wo (ya a) fun a=>wo (rr E.P x.1) fun _=>wo (aG t x.2.2.1) fun hi=>wo (asInt hi) fun hi=>wo (aG t x.2.2.2) fun mx=>wo (asInt mx) fun mx=>wb (kept a.2.2)<|0<=hi.2/\hi.2<=mx.2/\mx.2<=Int.ofNat (jd a.2.1 a.2.2)/\nx (.slice (some (a.1,0)) hi.2.toNat<|.known mx.2.toNat) s p
 | .ao L1 L2 l p=>wo (CI op) fun x=>wo (aG t x.1) fun a=>wo (ya a) fun a=>wo (aG t x.2.1) fun b=>wo (ya b) fun b=>wo (CJ E.P x.2.2) fun i=>wb (Nat.blt a.1 s.nx&&(Nat.blt b.1 s.nx&&(Nat.blt s.nx top&&(dr||Nat.beq s.mark 0))))
  (a.2.2= .known a.2.1/\1<=b.2.1/\s.h.get a.1=some (.cells L1.length (Tr.fill L1 0 .nil) [])/\s.h.get b.1=some (.cells L2.length (Tr.fill L2 0 .nil) [])/\L1.length<=top/\L2.length<=top/\a.2.1*i.1<=L1.length/\b.2.1*i.1<=L2.length/\
   L1.take (a.2.1*i.1)++L2.take (b.2.1*i.1)=l/\l.all AV.bR=true/\2*(a.2.1+b.2.1)*i.2+4096*i.2<=room/\l.length<=top/\
   nx (.slice (some (s.nx,0)) (a.2.1+b.2.1)<|.aq (a.2.1+b.2.1) i.1) (Km dr s (s.h.put s.nx<|some<|.cells l.length (Tr.fill l 0 .nil) []) [a.1,b.1] []) p)
 | .an L1 L2 l p=>wo (CI op) fun x=>wo (aG t x.1) fun a=>wo (ya a) fun a=>wo (aG t x.2.1) fun b=>wo (ya b) fun b=>wo (CJ E.P x.2.2) fun i=>wb (xJ i.1&&(Nat.blt a.1 s.nx&&(Nat.blt b.1 s.nx&&Nat.blt s.nx top)))
  (a.2.2= .known a.2.1/\1<=a.2.1/\1<=b.2.1/\s.h.get a.1=some (.cells L1.length (Tr.fill L1 0 .nil) [])/\s.h.get b.1=some (.cells L2.length (Tr.fill L2 0 .nil) [])/\L1.length<=top/\L2.length<=top/\a.2.1*i.1<=L1.length/\b.2.1*i.1<=L2.length/\
   L1.take (a.2.1*i.1)++L2.take (b.2.1*i.1)=l/\l.all AV.bR=true/\2*(a.2.1+b.2.1)*i.2+4096*i.2<=room/\l.length<=top/\
   nx (.slice (some (s.nx,0)) (a.2.1+b.2.1)<|.aq (a.2.1+b.2.1) i.1) (PL (.cells l.length (Tr.fill l 0 .nil) [])<|aV a.1<|aV b.1 s) p)
 | .il p=>wo (u9 t op) fun x=>wo (Dw n) fun m=>match E.sp x.1 with
  |some _=>False
  |none=>wo (E.P.funcs[x.1]?) fun fn=>wo fn.body fun body=>wb (!(fn.name == "runtime.NumGoroutine"))<|wb (Nat.ble (max fn.ntmps x.2.length) top)<|ih m (.fr x.1 (max fn.ntmps x.2.length) [.code body] (dc x.2) s) p fn.results.toList nx fun _ _ _=>False
 |_=>False
def QF(E:Env)(ih:Rec)(n:Nat)(c:K7)(p:Pl)(rs:List ResultVar)(k:Kt)(C:x8):Prop:=match c with
 | .fr f nt K t s=>match p with
  | .st j p=>wr (dX E.P (aZ E.P E.sp E.F n) j ⟨f,t,nt,K,[],none⟩ s) fun x s1=>wo (Pd x) fun y=>ih n (.fr y.1 y.2.1 y.2.2.1 y.2.2.2 s1) p rs k C
  | .rg p=>wo (NO K) fun x=>ih n (.rg f nt x.2.2 x.1 (Wj x.2.1) 0 t s) p rs k C
  | .rt j p=>wr (dX E.P (aZ E.P E.sp E.F n) j ⟨f,t,nt,K,[],none⟩ s) fun x s1=>wo (Pe x) fun y=>wr (finish E.P rs y.1 y.2 s1) fun v s2=>k v s2 p
  | .cut p=>C ⟨f,t,nt,K,[],none⟩ s p
  | .ls l o nx p=>wb (E.fg&&(pL top l&&(pL top o&&((Nat.ble s.nx nx&&Nat.ble nx top)&&o.all fun q=>Je q.2))))<|l.map (fun q=>t.get q.1)=l.map (fun q=>some q.2)/\o.map (fun q=>s.h.get q.1)=o.map (fun q=>q.2)/\C ⟨f,aC l,nt,K,[],none⟩ (ah o nx) p
  | .rn l0 o0 l o bx nx p=>wb (E.fg&&Nat.beq s.nx bx)<|l0.map (fun q=>t.get q.1)=l0.map (fun q=>some q.2)/\o0.map (fun q=>s.h.get q.1)=o0.map (fun q=>q.2)/\hU E.F E.lo bx l0 o0 l o nx/\C ⟨f,aC l,nt,K,[],none⟩ (ah o nx) p
  | .bk l o nx p=>wb (E.fg&&(pL top l&&(pL nx o&&((Nat.ble nx s.nx&&(Nat.blt s.nx top&&Nat.ble E.lo nx))&&o.all fun q=>Je q.2))))<|l.map (fun q=>t.get q.1)=l.map (fun q=>some q.2)/\o.map (fun q=>s.h.get q.1)=o.map (fun q=>q.2)/\tO nx l o/\C ⟨f,aC l,nt,K,[],none⟩ (ah o nx) p
  |_=>False
 | .rg f nt K ops D i t s=>match p with
  | .go m p=>wb (Nat.ble (i+m) ops.size)<|wr (PQ E.P (aZ E.P E.sp E.F n) nt ops D i m t s) fun x s1=>ih n (.rg f nt K ops x.2 (i+m) x.1 s1) p rs k C
  | .en p=>wb (Nat.ble ops.size i)<|wb (JQ ops D)<|ih n (.fr f nt K t s) p rs k C
  |p=>wo (xV ops i) fun o=>wb (JP ops o.2.2 t)<|XR E (D.isSome&&Nat.beq s.mark 0) ih n (fun v s1 p=>wo (ji nt t o.2.1 v) fun t1=>ih n (.rg f nt K ops (Kl D i (s) s1) (i+1) t1<|DR D s s1) p rs k C) (iz D s) t o.1 p
def wp(E:Env)(fuel:Nat):Rec:= @Nat.rec (fun _=>Rec) (fun _ _ _ _ _ _=>False) (fun _ ih=>QF E ih) fuel
def lX(P:Program)(YR:aJ)(G:AF->AS->Prop)(f nt:Nat)(K:List Item)(ops:Array Oper)(D:Option<|List Met)(i:Nat)(t:Tr AV)(s:AS):Prop:=match D with
 |none=>xY P YR G f nt K ops i t s
 |some acc=>qD P YR G f nt K ops acc i t s
def Gof(P:Program)(YR:aJ)(G:AF->AS->Prop)(c:K7):Prop:=match c with
 | .fr f nt K t s=>G ⟨f,t,nt,K,[],none⟩ s
 | .rg f nt K ops D i t s=>lX P YR G f nt K ops D i t s
end
theorem bc{o:Option α}{k:α->Prop}(h:wo o k):∃x,o=some x/\k x:=by
 cases o with
 |none=>exact h.elim
 |some x=>exact⟨x,rfl,h⟩
theorem FJ{r:R α}{k:α->AS->Prop}(h:wr r k):∃x s,r= .ok x s/\k x s:=by
 cases r with
 |bad=>exact h.elim
 |ok x s=>exact⟨x,s,rfl,h⟩
theorem gU{k:Prop}(h:wb b k):b=true/\k:=by
 cases b with
 |false=>exact h.elim
 |true=>exact⟨rfl,h⟩
theorem adf(fi args ca:List AV):PM fi args ca=fi++args++ca:=by
 unfold PM;split
 ·simp
 ·rfl
theorem ab0{g:FuncId×List AV×List AV}(h:PN v=some g):v= .func (.func g.1) g.2.1 g.2.2:=by
 unfold PN at h;split at h
 ·injection h with h;subst h;rfl
 ·cases h
theorem qY{x:IntKind×Int}(h:asInt v=some x):v= .int x.1 x.2:=by
 unfold asInt at h;split at h
 ·injection h with h;subst h;rfl
 ·cases h
theorem ZD{x:Option (Nat×Nat)×Nat×bZ}(h:asSlice v=some x):v= .slice x.1 x.2.1 x.2.2:=by
 unfold asSlice at h;split at h
 ·injection h with h;subst h;rfl
 ·cases h
theorem aaQ{x:br}{y:Nat×Nat×List Item×Tr AV}(h:Pd x=some y):x= .go ⟨y.1,y.2.2.2,y.2.1,y.2.2.1,[],none⟩:=by
 unfold Pd at h;split at h
 ·injection h with h;subst h;rfl
 ·cases h
theorem aaR{x:br}{y:AF×Option Code}(h:Pe x=some y):x= .leave y.1 y.2:=by
 unfold Pe at h;split at h
 ·injection h with h;subst h;rfl
 ·cases h
theorem ZE{K:List Item}{y:Array Oper×Bool×List Item}(h:NO K=some y):∃id,K= .code (.region id y.1 y.2.1)::y.2.2:=by
 unfold NO at h;split at h
 ·injection h with h;subst h;exact⟨_,rfl⟩
 ·cases h
theorem E5{m:Nat}(h:Dw n=some m):n=m+1:=by
 cases n with
 |zero=>cases h
 |succ n=>injection h with h;subst h;rfl
theorem RM{op:Op}{x:BinOp×TypeId×Operand×Operand×TypeId}(h:Ij op=some x):op= .binOp x.1 x.2.1 x.2.2.1 x.2.2.2.1 x.2.2.2.2:=by
 unfold Ij at h;split at h
 ·injection h with h;subst h;rfl
 ·cases h
theorem Z5{t:Tr AV}{op:Op}{x:FuncId×List AV}(h:u9 t op=some x):∃fo xs ts fi args ca,op= .call ⟨.value fo,xs,ts⟩/\aG t fo=some (.func (.func x.1) fi ca)/\jU (aG t) xs.toList=some args/\x.2=fi++args++ca:=by
 unfold u9 at h;split at h
 ·cases h
 ·rename_i y hy;have eX:op= .call ⟨.value y.1,y.2.1,y.2.2⟩:=by
   unfold callParts at hy;split at hy
   ·injection hy with hy;subst hy;rfl
   ·cases hy
  split at h
  ·cases h
  ·rename_i fv hf;split at h
   ·cases h
   ·rename_i g hg;split at h
    ·cases h
    ·rename_i args ha;injection h with h;subst h
     exact⟨_,_,_,g.2.1,_,g.2.2,eX,by rw[hf,ab0 hg],ha,adf _ _ _⟩
section
variable {P:Program} {s s1:AS} {YR:aJ} {t t1:Tr AV} {ops:Array Oper} {f nt i:Nat} {K:List Item} {G:AF->AS->Prop} {D:Option<|List Met}
theorem adg{o:BinOp}{a b:Int}(h:PO o a b=some c):∃r,PI o a b=some r/\(r=true↔c):=by
 unfold PO at h;split at h<;>first|(injection h with h;subst h)|cases h
 ·exact⟨_,rfl,by rw[decide_eq_true_iff]⟩
 ·exact⟨_,rfl,by rw[decide_eq_true_iff]⟩
 ·exact⟨_,rfl,by rw[decide_eq_true_iff]⟩
 ·exact⟨_,rfl,by rw[decide_eq_true_iff]⟩
 ·exact⟨_,rfl,by simp⟩
 ·exact⟨_,rfl,by simp⟩
theorem lX.op{op:Op}{d:Option Tmp}{g:Option<|Nat×Bool}(ho:xV ops i=some (op,d,g))(hw:JP ops g t=true)(h:(dI P op).val YR t (iz D s)= .ok v s1)(hp:ji nt t d v=some t1)(H:lX P YR G f nt K ops (Kl D i s s1) (i+1) t1<|DR D s s1):lX P YR G f nt K ops D i t s:=by
 cases D with
 |none=>exact xY.step (UC ho) (aeM ho hw h hp) H
 |some acc=>exact qD.step (UC ho) (ada ho hw h hp) H
theorem lX.go{x:Tr AV×Option (List Met)}(hn:Nat.ble (i+n) ops.size=true)(h:PQ P YR nt ops D i n t s= .ok x s1)(H:lX P YR G f nt K ops x.2 (i+n) x.1 s1):lX P YR G f nt K ops D i t s:=by
 have hle:=aK.1 hn;unfold PQ at h;cases D with
 |none=>
  simp only at h;split at h
  ·rename_i t2 s2 e;injection h with h1 h2;subst h1;subst h2
   obtain⟨t3,s3,q1,q2⟩:=H;refine⟨t3,s3,?_,q2⟩;rw[show ops.size - i=n+(ops.size - (i+n)) by omega];exact Sn e q1
  ·cases h
 |some acc=>
  simp only at h;split at h
  ·rename_i y s2 e;injection h with h1 h2;subst h1;subst h2
   obtain⟨t3,ms,s3,q1,q2,q3⟩:=H;refine⟨t3,_,s3,?_,by rw[←List.append_assoc];exact q2,q3⟩;rw[show ops.size - i=n+(ops.size - (i+n)) by omega];exact TJ rfl aj e q1
  ·cases h
theorem lX.done(h:Nat.ble ops.size i=true)(ho:JQ ops D=true)(H:G ⟨f,t,nt,K,[],none⟩ s):lX P YR G f nt K ops D i t s:=by
 cases D with
 |none=>exact xY.done h H
 |some acc=>exact qD.done (and_true.2 ⟨h,ho⟩) H
theorem lX.ahV(hG:Chunk P YR G){id:Nat}{d:Bool}(H:lX P YR G f nt K ops (Wj d) 0 t s):G ⟨f,t,nt,.code (.region id ops d)::K,[],none⟩ s:=by
 cases d with
 |false=>exact Chunk.zV hG (c:=.region id ops false) rfl H
 |true=>exact Chunk.ahR hG (c:=.region id ops true) rfl H
theorem Z6{op:Op}{x:Nat×List AV}(h:NP t op=some x)(hv:YR (.round x.1) x.2 s= .ok v s1):(dI P op).val YR t s= .ok v s1:=by
 unfold NP at h;split at h
 ·cases h
 ·rename_i y e;split at h
  ·rename_i l e2;split at h
   ·cases h
   ·rename_i args e3;injection h with h;subst h
    unfold callParts at e;split at e
    ·rename_i fo xs ts;injection e with e;subst e
     show tB fo xs.toList YR t s=_;unfold tB;simp only at e2 e3;rw[e3,bV,e2,bV];show mX YR (.yield l) args s=_;exact hv
    ·cases e
  ·cases h
theorem As{op:Op}{x:FuncId×List AV}(h:u9 t op=some x)(hv:YR (.fn x.1) x.2 s= .ok v s1):(dI P op).val YR t s= .ok v s1:=by obtain⟨fo,xs,ts,fi,args,ca,rfl,h1,h2,h3⟩:=Z5 h;show tB fo xs.toList YR t s=_;unfold tB;rw[h2,bV,h1,bV];show YR (.fn x.1) (fi++args++ca) s=_;rw[←h3];exact hv
end
theorem YY{op:Op}(h:Mi op=some x):op= .lookup x.1 x.2.1 x.2.2 true:=by
 unfold Mi at h;split at h
 ·injection h with h;subst h;rfl
 ·cases h
theorem Zm{op:Op}{x:TypeId×Operand×Operand×Operand}(h:Ng op=some x):op= .mapUpdate x.1 x.2.1 x.2.2.1 x.2.2.2:=by
 unfold Ng at h;split at h
 ·injection h with h;subst h;rfl
 ·cases h
theorem S9(h:JS v=some n):v= .map (some n):=by
 unfold JS at h;split at h
 ·injection h with h;subst h;rfl
 ·cases h
theorem Ss{P:Program}{y:TypeId×TypeId}(h:Jf P ty=some y):P.underlying ty=some (.map y.1 y.2):=by
 unfold Jf at h;split at h
 ·rename_i e;injection h with h;subst h;exact e
 ·cases h
theorem MD{k:IntKind}(h:F4 k=true):k= .i64:=by
 unfold F4 at h;split at h
 ·rfl
 ·cases h
theorem ab1{v:Option AV}(h:PS v=true):v=some (.int .i64 0):=by
 unfold PS at h;split at h
 ·rfl
 ·cases h
theorem LQ{op:Op}(h:Fl op=some x):op= .indexAddr x.1 x.2.1 x.2.2:=by
 unfold Fl at h;split at h
 ·injection h with h;subst h;rfl
 ·cases h
theorem Hy{op:Op}{x:Operand×Operand×Array TypeId}(h:CI op=some x):op= .call ⟨.builtin .append, #[x.1,x.2.1],x.2.2⟩:=by
 unfold CI at h;split at h
 ·rename_i xs ts;split at h
  ·rename_i a b e;injection h with h;subst h
   have:xs= #[a,b]:=Array.ext' e;rw[this]
  ·cases h
 ·cases h
theorem ab2{x:Nat×Nat×Nat×Nat}(h:PR v=some x):v= .slice (some (x.1,0)) x.2.1 (.aq x.2.2.1 x.2.2.2):=by
 unfold PR at h;split at h
 ·injection h with h;subst h;rfl
 ·cases h
theorem Z7{m:Nat}(h:Oo v=some m):v= .slice (some (m,0)) 1 (.known 1):=by
 unfold Oo at h;split at h
 ·injection h with h;subst h;rfl
 ·cases h
theorem Hz{P:Program}{ts:Array TypeId}{x:Nat×Nat}(h:CJ P ts=some x):∃ty e,ts[0]? =some ty/\P.underlying ty=some (.slice e)/\(P.info? e).map (fun i=>(i.size,i.bytes,sK i))=some (x.1,x.2,true)/\pt P ts[1]? =true/\Nat.beq x.2 0=false:=by
 unfold CJ at h;split at h
 ·rename_i ty h1;split at h
  ·rename_i e h2;split at h
   ·rename_i i h3;split at h
    ·rename_i hb;injection h with h;subst h
     obtain⟨b1,b2⟩:=and_true.1 hb;obtain⟨b2,b3⟩:=and_true.1 b2;refine⟨ty,e,h1,h2,by rw[h3];simp only[Option.map_some,b1],b2,by simpa using b3⟩
    ·cases h
   ·cases h
  ·cases h
 ·cases h
theorem Hu{op:Op}{x:TypeId×Operand}(h:E4 op=some x):op= .load x.1 x.2:=by
 unfold E4 at h;split at h
 ·injection h with h;subst h;rfl
 ·cases h
theorem YZ{op:Op}(h:Mg op=some x):op= .store x.1 x.2.1 x.2.2:=by
 unfold Mg at h;split at h
 ·injection h with h;subst h;rfl
 ·cases h
theorem Ta{x:Nat×Nat×Nat}(h:JR v=some x):v= .U x.1 x.2.1 x.2.2:=by
 unfold JR at h;split at h
 ·injection h with h;subst h;rfl
 ·cases h
theorem Z9{x:Nat×Nat}(h:Oq v=some x):v= .pG x.1 x.2:=by
 unfold Oq at h;split at h
 ·injection h with h;subst h;rfl
 ·cases h
theorem HJ{x:Nat×Nat}(h:addrOf v=some x):v= .ptr (some x):=by
 unfold addrOf at h;split at h
 ·injection h with h;subst h;rfl
 ·cases h
theorem ME{z:Int}{len:Nat}(h1:0<=z)(h2:z<Int.ofNat len):within z len=some z.toNat:=by
 obtain⟨m,rfl⟩:=Int.eq_ofNat_of_zero_le h1;show within (Int.ofNat m) len=some m;have h2:(m:Int)<(len:Int):=h2;unfold within;have:Nat.blt m len=true:=by rw[blt_eq];omega
 simp only[this]
section
variable {P:Program} {s s1:AS} {YR:aJ} {t:Tr AV}
theorem agf{len K:Nat}{z:Int}(hx:aG t x.2.1=some (.slice (some (n,0)) len cap))(hz:aG t x.2.2=some (.int ik z))(hk:rr P x.1=some K)(h1:0<=z)(h2:z<Int.ofNat len):(dI P<|.indexAddr x.1 x.2.1 x.2.2).val YR t s= .ok (.ptr<|some (n,z.toNat*K)) s:=by
 show p9 P x.1 x.2.1 x.2.2 YR t s=_;unfold p9;rw[hx,hz,bV,bV];unfold rr at hk;split at hk
 ·rename_i e he;show lift (indexAddr P x.1 (.slice (some (n,0)) len cap)<|.int ik z) s=_;unfold indexAddr intOf;simp only[he,hk,ME h1 h2,Nat.zero_add];rfl
 ·cases hk
theorem aeY{K:Nat×Nat}{z:Int}(hx:aG t x.2.1=some (.ptr<|some (n,o)))(hz:aG t x.2.2=some (.int ik z))(hk:Pf P x.1=some K)(h1:0<=z)(h2:z<Int.ofNat K.1):(dI P<|.indexAddr x.1 x.2.1 x.2.2).val YR t s= .ok (.ptr<|some (n,o+z.toNat*K.2)) s:=by
 show p9 P x.1 x.2.1 x.2.2 YR t s=_;unfold p9;rw[hx,hz,bV,bV];unfold Pf at hk;split at hk
 ·rename_i m e he;cases hs:eD P e with
  |none=>rw[hs] at hk;cases hk
  |some k=>
   rw[hs] at hk;injection hk with hk
   subst hk;show lift (indexAddr P x.1 (.ptr<|some (n,o))<|.int ik z) s=_;unfold indexAddr intOf;simp only[he,hs,ME h1 h2];rfl
 ·cases hk
theorem aeZ{len K:Nat}{z:Int}(hx:aG t x.2.1=some (.U n o len))(hz:aG t x.2.2=some (.int ik z))(hk:rr P x.1=some K)(h1:0<=z)(h2:z<Int.ofNat len):(dI P<|.indexAddr x.1 x.2.1 x.2.2).val YR t s= .ok (.pG n<|o+z.toNat*K) s:=by
 show p9 P x.1 x.2.1 x.2.2 YR t s=_;unfold p9;rw[hx,hz,bV,bV];unfold rr at hk;split at hk
 ·rename_i e he;show lift (indexAddr P x.1 (.U n o len)<|.int ik z) s=_;unfold indexAddr intOf;simp only[he,hk,ME h1 h2];rfl
 ·cases hk
theorem RN(hk:xJ k=true)(hn:Nat.blt n s.nx=true)(h:cellsOf (s.h.get n) off k=some cs):jc n off k s= .ok cs (aV n s):=by
 cases k with
 |zero=>cases hk
 |succ k=>
  unfold cellsOf at h;split at h
  ·rename_i m tt z hg;split at h
   ·rename_i hb;show((bu n).bind fun o=>match o with
     | .cells m t z=>aF (Nat.ble (off+(k+1)) m) <| lift (lS t z (k+1) off)
     | .ro m t=>aF (Nat.ble (off+(k+1)) m) <| lift (lS t [] (k+1) off)
     |_=>fail) s=_
    rw[M.bL<|lR hn hg];show aF (Nat.ble (off+(k+1)) m) (lift<|lS tt z (k+1) off) (aV n s)=_;rw[hb,dA,h];rfl
   ·cases h
  ·cases h
theorem aaa(hg:qx P ty=some ag)(hw:FI P ty ag=some k)(hk:xJ k=true)(hn:Nat.blt n s.nx=true)(hv:Gs ag cs=some v)(h:cellsOf (s.h.get n) off k=some cs):loadVar P ty n off s= .ok v (aV n s):=by
 unfold loadVar;rw[hg,bV];cases ag with
 |true=>
  have hw:eD P ty=some k:=hw;injection hv with hv;subst hv
  show(aA (eD P ty) fun k=>(jc n off k).bind fun l=>M.pure<|AV.agg l) s=_;rw[hw,bV,M.bL<|RN hk hn h];rfl
 |false=>
  injection hw with hw;subst hw
  show((jc n off 1).bind fun l=>lift<|one l) s=_;rw[M.bL<|RN hk hn h];show lift (one cs) (aV n s)=_;rw[show one cs=some v from hv];rfl
theorem Ph{x:TypeId×Operand}(ha:aG t x.2=some (.ptr<|some a))(hg:qx P x.1=some ag)(hw:FI P x.1 ag=some k)(hk:xJ k=true)(hn:Nat.blt a.1 s.nx=true)(hv:Gs ag cs=some v)(h:cellsOf (s.h.get a.1) a.2 k=some cs):(dI P<|.load x.1 x.2).val YR t s= .ok v (aV a.1 s):=by show tA P x.1 x.2 YR t s=_;unfold tA;rw[ha,bV];show loadVar P x.1 a.1 a.2 s=_;exact aaa hg hw hk hn hv h
theorem ae0{o:ae}(ha:aG t x.2.1=some (.ptr<|some a))(hv:aG t x.2.2=some v)(hk:eD P x.1=some k)(hl:Nat.beq v.cells.length k=true)(hp:xJ k=true)(hn:Nat.blt a.1 s.nx=true)(ht:Nat.blt a.1 top=true)(h:xI (s.h.get a.1) a.2 v.cells=some o):(dI P<|.store x.1 x.2.1 x.2.2).val YR t s= .ok qf (fp a.1 (some o)<|aV a.1 s):=by
 show xk P x.1 x.2.1 x.2.2 YR t s=_;unfold xk;rw[ha,bV];show aA (aG t x.2.2) (fun v=>(storeVar P x.1 a.1 a.2 v).bind fun _=>M.pure qf) s=_;rw[hv,bV];have hw:storeVar P x.1 a.1 a.2 v s= .ok () (fp a.1 (some o)<|aV a.1 s):=by
  unfold storeVar;rw[hk,bV,hl,dA];unfold xI at h;split at h
  ·rename_i m tt z hg;split at h
   ·rename_i hb;injection h with h;subst h
    cases hc:v.cells with
    |nil=>rw[hc] at hl;have:=Nat.eq_of_beq_eq_true hl;subst this;cases hp
    |cons y r=>
     rw[hc] at hb;show((bu a.1).bind fun o=>match o with
      | .cells m t z=>aF (and (Nat.ble (a.2+(r.length+1)) m)<|and (Nat.ble m top)<|(y::r).all AV.bR) <| bK a.1 (some<|.cells m (Tr.fill (y::r) a.2 t) z)
      |_=>fail) s=_
     rw[M.bL<|lR hn hg];show aF (and (Nat.ble (a.2+(r.length+1)) m)<|and (Nat.ble m top)<|(y::r).all AV.bR) (bK a.1<|some<|.cells m (Tr.fill (y::r) a.2 tt) z) (aV a.1 s)=_;rw[show(and (Nat.ble (a.2+(r.length+1)) m)<|and (Nat.ble m top)<|(y::r).all AV.bR)=true from hb,dA];obtain⟨e1,e2,_⟩:=fN a.1 s;exact wY (p:=.cells m tt z) (by rw[e2];exact hn) (by rw[e1];exact hg) rfl ht
   ·cases h
  ·cases h
 rw[M.bL hw];rfl
theorem ae1{x:TypeId×Operand}(ha:aG t x.2=some (.pG a.1 a.2))(hg:qx P x.1=some ag){z:Nat}(hz:eD P x.1=some z)(hw:FI P x.1 ag=some k)(hv:Gs ag cs=some v)(ht:top<=a.1)(h:cG F a.1 a.2 k=some cs):(dI P<|.load x.1 x.2).val (aZ P sp F n) t s= .ok v s:=by
 show tA P x.1 x.2 (aZ P sp F n) t s=_;unfold tA;rw[ha,bV];show(match Nat.ble top a.1 with
  |true=>uY P x.1 (aZ P sp F n) a.1 a.2
  |false=>wW P x.1 a.1 a.2) s=_
 rw[aK.2 ht];have hr:∀k,cG F a.1 a.2 k=some cs->aZ P sp F n (.row a.1 a.2 k) [] s= .ok (.agg cs) s:=by
  intro k h;have:qB F a.1 a.2 k s= .ok (.agg cs) s:=by
   unfold cG at h;unfold qB;cases e:F a.1 with
   |none=>rw[e] at h;cases h
   |some l=>
    rw[e] at h;simp only at h;split at h
    ·rename_i hb;injection h with h;subst h
     rw[bV,hb,dA];rfl
    ·cases h
  cases n<;>exact this
 show uY P x.1 (aZ P sp F n) a.1 a.2 s=_;unfold uY;rw[hg,bV];rw[hz,bV];cases ag with
 |true=>
  have hw:eD P x.1=some k:=hw;rw[hz] at hw;injection hw with hw;subst hw
  injection hv with hv;subst hv
  show((aZ P sp F n (.row a.1 a.2 z) []).bind fun v=>_) s=_;rw[M.bL<|hr z h];rfl
 |false=>
  injection hw with hw;subst hw
  show((aZ P sp F n (.row a.1 a.2 1) []).bind fun v=>_) s=_;rw[M.bL<|hr 1 h];show lift (one cs) s=_;rw[show one cs=some v from hv];rfl
theorem agh{x:BinOp×TypeId×Operand×Operand×TypeId}{k:IntKind}{a b:Int}(ho:x.1= .rem)(hx:aG t x.2.2.1=some (.int k a))(hy:aG t x.2.2.2.1=some (.int k b))(hb:b≠0):(dI P<|.binOp x.1 x.2.1 x.2.2.1 x.2.2.2.1 x.2.2.2.2).val YR t s= .ok (.int k<|Int.tmod a b) s:=by rw[ho];exact aeL hx hy hb rfl
theorem Nh:∀{l:List<|Nat×AV},l.map (fun q=>t.get q.1)=l.map (fun q=>some q.2)->xH t l
 |[],_=>trivial
 |p::l,h=>by simp only[List.map_cons,List.cons.injEq] at h;exact⟨h.1,Nh h.2⟩
theorem NR{h:Tr ae}:∀{o:List<|Nat×Option ae},o.map (fun q=>h.get q.1)=o.map (fun q=>q.2)->(o.all fun q=>Je q.2)=true->xW h o
 |[],_,_=>trivial
 |p::l,e,k=>by simp only[List.map_cons,List.cons.injEq] at e;rw[List.all_cons] at k;obtain⟨k1,k2⟩:=and_true.1 k;exact⟨⟨e.1,fun o ho=>by rw[ho] at k1;exact k1⟩,NR e.2 k2⟩
end
def zZ(m m':Met):Prop:=m.i=m'.i/\(∀n∈m.rd,n∈m'.rd)/\(∀n∈m.wr,n∈m'.wr)/\m.lo=m'.lo/\m.hi=m'.hi
def nh:List Met->List Met->Prop
 |[],[]=>True
 |x::l,y::m=>zZ x y/\nh l m
 |_,_=>False
theorem zZ.refl(m:Met):zZ m m:=⟨rfl,fun _ h=>h,fun _ h=>h,rfl,rfl⟩
theorem nh.refl:∀l:List Met,nh l l
 |[]=>trivial
 |x::l=>⟨zZ.refl x,nh.refl l⟩
theorem nh.app:∀{a a' b b':List Met},nh a a'->nh b b'->nh (a++b) (a'++b')
 |[],[],_,_,_,h=>h
 |_::_,_::_,_,_,h,k=>⟨h.1,nh.app h.2 k⟩
 |[],_::_,_,_,h,_=>h.elim
 |_::_,[],_,_,h,_=>h.elim
theorem MF{lo hi:Nat}:∀{l:List Nat},zh lo hi l=true↔∃n∈l,lo<=n/\n<hi
 |[]=>by simp[zh]
 |x::l=>by
  have ih:=MF (lo:=lo) (hi:=hi) (l:=l);unfold zh;cases q:(Nat.ble lo x&&Nat.blt x hi) with
  |true=>obtain⟨h1,h2⟩:=and_true.1 q;exact⟨fun _=>⟨x,List.mem_cons_self,aK.1 h1,(blt_eq _ _).mp h2⟩,fun _=>rfl⟩
  |false=>
   refine ih.trans ⟨fun⟨n,a,b⟩=>⟨n,List.mem_cons_of_mem _ a,b⟩,fun⟨n,a,b⟩=>?_⟩;rcases List.mem_cons.1 a with rfl|a
   ·exfalso;rw[show(Nat.ble lo n&&Nat.blt n hi)=true from and_true.2 ⟨aK.2 b.1,(blt_eq _ _).mpr b.2⟩] at q;cases q
   ·exact⟨n,a,b⟩
theorem MG:∀{a b:List Nat},meets a b=true↔∃n∈a,n∈b
 |[],b=>by simp[meets]
 |x::a,b=>by
  have ih:=MG (a:=a) (b:=b);unfold meets;cases q:Bt x b with
  |true=>exact⟨fun _=>⟨x,List.mem_cons_self,Ib.1 q⟩,fun _=>rfl⟩
  |false=>
   refine ih.trans ⟨fun⟨n,h,k⟩=>⟨n,List.mem_cons_of_mem _ h,k⟩,fun⟨n,h,k⟩=>?_⟩;rcases List.mem_cons.1 h with rfl|h
   ·rw[Ib.2 k] at q;cases q
   ·exact⟨n,h,k⟩
theorem Tb{m:Nat}{a b:List Nat}(h:∀k∈a,k∈b)(n:Nat)(hn:n∈below m a):n∈below m b:=by obtain⟨h1,h2⟩:=wL.1 hn;exact wL.2 ⟨h n h1,h2⟩
theorem HK(l:List Nat):below 0 l=[]:=rfl
theorem aab{x y y':Met}(hx:zZ x x')(hy:zZ y y')(h:s8 x' y'=true):s8 x y=true:=by
 unfold s8 at h ⊢;obtain⟨h1,h2⟩:=and_true.1 h;refine and_true.2 ⟨?_,?_⟩
 ·cases q:meets x.wr y.rd with
  |false=>rfl
  |true=>obtain⟨n,a,b⟩:=MG.1 q;rw[MG.2 ⟨n,hx.2.2.1 n a,hy.2.1 n b⟩] at h1;cases h1
 ·cases q:zh x.lo x.hi y.rd with
  |false=>rfl
  |true=>obtain⟨n,a,b⟩:=MF.1 q;rw[hx.2.2.2.1,hx.2.2.2.2] at b;rw[MF.2 ⟨n,hy.2.1 n a,b⟩] at h2;cases h2
theorem aac{x:Met}(hx:zZ x x')(h:td x'=true):td x=true:=by
 unfold td at h ⊢;cases e:x'.wr with
 |cons a l=>rw[e] at h;cases h
 |nil=>
  rw[e] at h;cases e2:x.wr with
  |nil=>rw[hx.2.2.2.1,hx.2.2.2.2];exact h
  |cons a l=>have:=hx.2.2.1 a (by rw[e2];exact List.mem_cons_self);rw[e] at this;cases this
theorem Rw{b:Array Nat}{x x':Met}(hx:zZ x x'):∀{l l':List Met},nh l l'->sC b x' l'=true->sC b x l=true
 |[],[],_,_=>rfl
 |[],_::_,h,_=>h.elim
 |_::_,[],h,_=>h.elim
 |y::l,y'::l',hl,h=>by
  unfold sC at h ⊢;cases q:(Nat.beq x'.i y'.i||(s8 x' y'|| !loose b x'.i y'.i)) with
  |false=>rw[q] at h;cases h
  |true=>
   rw[q] at h;have:(Nat.beq x.i y.i||(s8 x y|| !loose b x.i y.i))=true:=by
    rw[hx.1,hl.1.1];cases q1:Nat.beq x'.i y'.i with
    |true=>rfl
    |false=>
     rw[q1] at q;cases q2:s8 x' y' with
     |true=>rw[aab hx hl.1 q2];rfl
     |false=>
      rw[q2] at q;cases s8 x y
      ·exact q
      ·rfl
   rw[this];exact Rw hx hl.2 h
theorem Tc{b:Array Nat}{all PT:List Met}(ha:nh all PT):∀{l l':List Met},nh l l'->qk b PT l'=true->qk b all l=true
 |[],[],_,_=>rfl
 |[],_::_,h,_=>h.elim
 |_::_,[],h,_=>h.elim
 |x::l,x'::l',hl,h=>by
  unfold qk at h ⊢;cases q:(td x'||sC b x' PT) with
  |false=>rw[q] at h;cases h
  |true=>
   rw[q] at h;have:(td x||sC b x all)=true:=by
    cases q1:td x' with
    |true=>rw[aac hl.1 q1];rfl
    |false=>rw[q1] at q;rw[Rw hl.1 ha q];cases td x<;>rfl
   rw[this];exact Tc ha hl.2 h
theorem qD.cover{P:Program}{YR:aJ}{G:AF->AS->Prop}{f nt:Nat}{K:List Item}{ops:Array Oper}{acc PU:List Met}{i:Nat}{t:Tr AV}{s:AS}(h:nh acc PU)(H:qD P YR G f nt K ops PU i t s):qD P YR G f nt K ops acc i t s:=by obtain⟨t1,ms,s1,q1,q2,q3⟩:=H;exact⟨t1,ms,s1,q1,Tc (h.app<|nh.refl ms) (h.app<|nh.refl ms) q2,q3⟩
theorem aaS{B:Prop}(hy:b=true->A)(lZ:b=false->B)(ha:b=true->A->X)(hb:b=false->B->X):X:=by
 cases b with
 |true=>exact ha rfl<|hy rfl
 |false=>exact hb rfl<|lZ rfl
theorem ab3{o:Option AV}{d:Decidable c}{B:Prop}(h:o=some (.bool<|@decide c d))(hy:c->A)(lZ:¬c->B)(ha:o=some (.bool true)->A->X)(hb:o=some (.bool false)->B->X):X:=by
 by_cases q:c
 ·rw[decide_eq_true q] at h;exact ha h<|hy q
 ·rw[decide_eq_false q] at h;exact hb h<|lZ q
theorem AG{x:Nat×Nat×bZ}(h:ya v=some x):v= .slice (some (x.1,0)) x.2.1 x.2.2:=by
 unfold ya at h;split at h
 ·injection h with h;subst h;rfl
 ·cases h
theorem Y0{op:Op}{x:TypeId×Operand×Option Operand×Option Operand}(h:Mh op=some x):op= .slice x.1 x.2.1 x.2.2.1 x.2.2.2 none:=by
 unfold Mh at h;split at h
 ·injection h with h;subst h;rfl
 ·cases h
theorem MH{i:Int}(h0:0<=i)(h1:i<(n:Int)):within i n=some i.toNat:=by
 obtain⟨k,rfl⟩:=Int.eq_ofNat_of_zero_le h0;have hk:k<n:=by omega
 show(match (Int.ofNat k) with| .ofNat k=>(match Nat.blt k n with|true=>some k|false=>none)| .negSucc _=>none)=some k;have:Nat.blt k n=true:=by rw[blt_eq];exact hk
 simp only[this]
theorem RO{t:Tr AV}{o:Option Operand}{d v:Int}{tL:Nat}(h:C5 t o d=some v)(h0:0<=v)(h1:v<=(tL:Int)):∃y,opt (aG t) o=some y/\∀dn:Nat,(Int.ofNat dn=d)->bound y tL dn=some v.toNat:=by
 cases o with
 |none=>
  injection h with h;subst h
  exact⟨none,rfl,fun dn e=>by subst e;rfl⟩
 |some x=>
  unfold C5 at h;simp only at h;cases e:aG t x with
  |none=>rw[e] at h;cases h
  |some z=>
   rw[e] at h;cases z<;>simp only at h<;>first|(cases h;done)|skip
   rename_i k n;injection h with h;subst h
   refine⟨some<|.int k n,?_,fun dn _=>?_⟩
   ·show(match aG t x with|none=>none|some v=>some<|some v)=_;rw[e]
   ·show within n (tL+1)=_;exact MH h0 aj
theorem YT{op:Op}{x:TypeId×Operand×Operand×Operand}(h:L7 op=some x):op= .slice x.1 x.2.1 none (some x.2.2.1) (some x.2.2.2):=by
 unfold L7 at h;split at h
 ·injection h with h;subst h;rfl
 ·cases h
theorem agi{P:Program}{YR:aJ}{t:Tr AV}{s:AS}{x:TypeId×Operand×Option Operand×Option Operand}{len K:Nat}{hi:Int}(hx:aG t x.2.1=some (.slice (some (n,0)) len cap))(hk:rr P x.1=some K)(h1:C5 t x.2.2.1 0=some 0)(h2:C5 t x.2.2.2 (Int.ofNat len)=some hi)(hc:kept cap=true)(a1:0<=hi)(a2:hi<=Int.ofNat (jd len cap)):
 (dI P<|.slice x.1 x.2.1 x.2.2.1 x.2.2.2 none).val YR t s= .ok (.slice (some (n,0)) hi.toNat cap) s:=by
 obtain⟨y1,e1,f1⟩:=RO (tL:=hi.toNat) h1 aj aj;obtain⟨y2,e2,f2⟩:=RO (tL:=jd len cap) h2 a1 a2;show sX P x.1 x.2.1 x.2.2.1 x.2.2.2 none YR t s=_;unfold sX;rw[hx,bV,e1,bV,e2,bV];show lift (wV P x.1 (.slice (some (n,0)) len cap) y1 y2 none) s=_;have:wV P x.1 (.slice (some (n,0)) len cap) y1 y2 none=some (.slice (some (n,0)) hi.toNat cap):=by
  unfold rr at hk;split at hk<;>first|(cases hk;done)|skip
  rename_i e hu;unfold wV;rw[hu];have f1':=f1 0 rfl;simp only[hk,f2 len rfl];rw[f1'];cases cap with
  |known c=>
   show(match Nat.beq c 0 with
    |true=>some (AV.slice (some (n,0)) (hi.toNat - 0)<|.known<|c - 0)
    |false=>some<|AV.slice (some (n,0+0*K)) (hi.toNat - 0)<|.known<|c - 0)=_
   rw[Nat.zero_mul];cases Nat.beq c 0<;>rfl
  |aq b e=>rfl
  |lost=>cases hc
 rw[this];rfl
theorem agj{P:Program}{YR:aJ}{t:Tr AV}{s:AS}{x:TypeId×Operand×Operand×Operand}{len K:Nat}{hi mx:IntKind×Int}(hx:aG t x.2.1=some (.slice (some (n,0)) len cap))(hk:rr P x.1=some K)(h1:aG t x.2.2.1=some (.int hi.1 hi.2))(h2:aG t x.2.2.2=some (.int mx.1 mx.2))(hc:kept cap=true)(a1:0<=hi.2)(a2:hi.2<=mx.2)(a3:mx.2<=Int.ofNat (jd len cap)):
 (dI P<|.slice x.1 x.2.1 none (some x.2.2.1)<|some x.2.2.2).val YR t s= .ok (.slice (some (n,0)) hi.2.toNat<|.known mx.2.toNat) s:=by
 show sX P x.1 x.2.1 none (some x.2.2.1) (some x.2.2.2) YR t s=_;unfold sX;have o1:opt (aG t) (some x.2.2.1)=some (some<|.int hi.1 hi.2):=by show(match aG t x.2.2.1 with|none=>none|some v=>some<|some v)=_;rw[h1]
 have o2:opt (aG t) (some x.2.2.2)=some (some<|.int mx.1 mx.2):=by show(match aG t x.2.2.2 with|none=>none|some v=>some<|some v)=_;rw[h2]
 rw[hx,bV,show opt (aG t) none=some none from rfl,bV,o1,bV,o2,bV];show lift (wV P x.1 (.slice (some (n,0)) len cap) none (some<|.int hi.1 hi.2)<|some<|.int mx.1 mx.2) s=_;have b1:bound (some<|.int mx.1 mx.2) (jd len cap) 0=some mx.2.toNat:=MH aj (by have:(Int.ofNat<|jd len cap)=((jd len cap:Nat):Int):=rfl;omega);have b2:bound (some<|.int hi.1 hi.2) mx.2.toNat 0=some hi.2.toNat:=MH a1 aj;have:wV P x.1 (.slice (some (n,0)) len cap) none (some<|.int hi.1 hi.2) (some<|.int mx.1 mx.2)=some (.slice (some (n,0)) hi.2.toNat<|.known mx.2.toNat):=by
  unfold rr at hk;split at hk<;>first|(cases hk;done)|skip
  rename_i e hu;unfold wV;rw[hu];simp only[hk];have h3:slice3 K (some (n,0)) (jd len cap) none (some<|.int hi.1 hi.2) (.int mx.1 mx.2)=some (.slice (some (n,0)) hi.2.toNat<|.known mx.2.toNat):=by
   unfold slice3;rw[b1];simp only;rw[b2];show(match Nat.beq mx.2.toNat 0 with
    |true=>some (AV.slice (some (n,0)) (hi.2.toNat - 0)<|.known<|mx.2.toNat - 0)
    |false=>some<|AV.slice (some (n,0+0*K)) (hi.2.toNat - 0)<|.known<|mx.2.toNat - 0)=_
   rw[Nat.zero_mul];cases Nat.beq mx.2.toNat 0<;>rfl
  cases cap with
  |known c=>exact h3
  |aq b e=>exact h3
  |lost=>cases hc
 rw[this];rfl
theorem ab4{P:Program}{m:Nat}{s:AS}(h:cG F n o k=some cs):aZ P sp F m (.row n o k) [] s= .ok (.agg cs) s:=by
 have:qB F n o k s= .ok (.agg cs) s:=by
  unfold cG at h;unfold qB;split at h
  ·rename_i l e;split at h
   ·rename_i q;injection h with h;subst h
    rw[e,bV,q,dA];rfl
   ·cases h
  ·cases h
 cases m<;>exact this
theorem ZF{l:List AV}{z:Nat×List AV}(h:NQ l=some z):l= .ptr (some (z.1,0))::z.2:=by
 unfold NQ at h;split at h
 ·injection h with h;subst h;rfl
 ·cases h
theorem aaT{o:Option ae}{u:Nat×AV}(h:Pg o=some u):o=some (.tok u.1 u.2):=by
 unfold Pg at h;split at h
 ·injection h with h;subst h;rfl
 ·cases h
theorem CK{E:Env}(hE:E.Ok):∀(fuel n:Nat) (c:K7) (p:Pl) (rs:List ResultVar) (k:Kt) (C:x8) (G:AF->AS->Prop),Chunk E.P (aZ E.P E.sp E.F n) G->
 (∀fr s j aO jm s1 x s2 p,dX E.P (aZ E.P E.sp E.F n) j fr s= .ok (.leave aO jm) s1->finish E.P rs aO jm s1= .ok x s2->k x s2 p->G fr s)->(∀fr s p,C fr s p->G fr s)->(∀f nt K t s l o nx p,E.fg=true->pL top l=true->pL top o=true->(Nat.ble s.nx nx&&Nat.ble nx top)=true->xH t l->xW s.h o->C ⟨f,aC l,nt,K,[],none⟩ (ah o nx) p->G ⟨f,t,nt,K,[],none⟩ s)->(∀f nt K t s l0 o0 l o nx p,E.fg=true->l0.map (fun q=>t.get q.1)=l0.map (fun q=>some q.2)->o0.map (fun q=>s.h.get q.1)=o0.map (fun q=>q.2)->hU E.F E.lo s.nx l0 o0 l o nx->C ⟨f,aC l,nt,K,[],none⟩ (ah o nx) p->G ⟨f,t,nt,K,[],none⟩ s)->(∀f nt K t s l o nx p,E.fg=true->pL top l=true->pL nx o=true->(Nat.ble nx s.nx&&(Nat.blt s.nx top&&Nat.ble E.lo nx))=true->xH t l->xW s.h o->tO nx l o->C ⟨f,aC l,nt,K,[],none⟩ (ah o nx) p->G ⟨f,t,nt,K,[],none⟩ s)->wp E fuel n c p rs k C->Gof E.P (aZ E.P E.sp E.F n) G c
 |0,n,c,p,rs,k,C,G,hG,hk,hC,hL,hR,hB,h=>h.elim
 |fuel+1,n,c,p,rs,k,C,G,hG,hk,hC,hL,hR,hB,h=>by
  have ih:=CK hE fuel;have h:QF E (wp E fuel) n c p rs k C:=h;unfold QF at h;cases c with
  |fr f nt K t s=>
   simp only at h;split at h
   ·obtain⟨x,s1,h1,h⟩:=FJ h;obtain⟨y,h2,h⟩:=bc h;rw[aaQ h2] at h1;exact hG _ _ _ _ _ h1<|ih n _ _ rs k C G hG hk hC hL hR hB h
   ·obtain⟨x,h1,h⟩:=bc h;obtain⟨id,rfl⟩:=ZE h1;exact lX.ahV hG<|ih n _ _ rs k C G hG hk hC hL hR hB h
   ·obtain⟨x,s1,h1,h⟩:=FJ h;obtain⟨y,h2,h⟩:=bc h;obtain⟨v,s2,h3,h⟩:=FJ h;rw[aaR h2] at h1;exact hk _ _ _ _ _ _ _ _ _ h1 h3 h
   ·exact hC _ _ _ h
   ·obtain⟨h1,h2,h3,h⟩:=gU h;obtain⟨q0,h1⟩:=and_true.1 h1;obtain⟨q1,h1⟩:=and_true.1 h1;obtain⟨q2,h1⟩:=and_true.1 h1;obtain⟨q3,q4⟩:=and_true.1 h1;exact hL _ _ _ _ _ _ _ _ _ q0 q1 q2 q3 (Nh h2) (NR h3 q4) h
   ·obtain⟨h1,h2,h3,h4,h⟩:=gU h;obtain⟨q0,q1⟩:=and_true.1 h1;have q1:=Nat.eq_of_beq_eq_true q1;rw[←q1] at h4;exact hR _ _ _ _ _ _ _ _ _ _ _ q0 h2 h3 h4 h
   ·obtain⟨h1,h2,h3,h4,h⟩:=gU h;obtain⟨q0,h1⟩:=and_true.1 h1;obtain⟨q1,h1⟩:=and_true.1 h1;obtain⟨q2,h1⟩:=and_true.1 h1;obtain⟨q3,q4⟩:=and_true.1 h1;exact hB _ _ _ _ _ _ _ _ _ q0 q1 q2 q3 (Nh h2) (NR h3 q4) h4 h
   ·exact h.elim
  |rg f nt K ops D i t s=>
   simp only at h;split at h
   ·obtain⟨h1,h⟩:=gU h;obtain⟨x,s1,h2,h⟩:=FJ h;exact lX.go h1 h2<|ih n _ _ rs k C G hG hk hC hL hR hB h
   ·obtain⟨h1,h⟩:=gU h;obtain⟨h2,h⟩:=gU h;exact lX.done h1 h2<|ih n _ _ rs k C G hG hk hC hL hR hB h
   ·obtain⟨o,ho,h⟩:=bc h;obtain⟨hw,h⟩:=gU h;obtain⟨op,d,g⟩:=o;simp only at hw h;have hn:∀v s1 p,(dI E.P op).val (aZ E.P E.sp E.F n) t (iz D s)= .ok v s1->(wo (ji nt t d v) fun t1=>wp E fuel n (.rg f nt K ops (Kl D i s s1) (i+1) t1<|DR D s s1) p rs k C)->lX E.P (aZ E.P E.sp E.F n) G f nt K ops D i t s:=by intro v s1 p hv h;obtain⟨t1,hp,h⟩:=bc h;exact lX.op ho hw hv hp (ih n _ _ rs k C G hG hk hC hL hR hB h)
    generalize ct:(fun(v:AV) (s1:AS) (p:Pl)=>wo (ji nt t d v) fun t1=>wp E fuel n (.rg f nt K ops (Kl D i s s1) (i+1) t1<|DR D s s1) p rs k C)=nx at h;have hn:∀v s1 p,(dI E.P op).val (aZ E.P E.sp E.F n) t (iz D s)= .ok v s1->nx v s1 p->lX E.P (aZ E.P E.sp E.F n) G f nt K ops D i t s:=by intro v s1 p hv h;rw[←ct] at h;exact hn v s1 p hv h
    have lE:∀v h2 R W p,((D.isSome&&Nat.beq s.mark 0)||Nat.beq (iz D s).mark 0)=true->(∃rd wr,(∀k∈rd,k∈R\/k∈(iz D s).rd)/\(∀k∈wr,k∈W\/k∈(iz D s).wr)/\((iz D s).mark=0->rd=(iz D s).rd/\wr=(iz D s).wr)/\
     (dI E.P op).val (aZ E.P E.sp E.F n) t (iz D s)= .ok v ⟨h2,(iz D s).nx+1,(iz D s).mark,rd,wr⟩)->nx v (Km (D.isSome&&Nat.beq s.mark 0) (iz D s) h2 R W) p->lX E.P (aZ E.P E.sp E.F n) G f nt K ops D i t s:=by
     rintro v h2 R W p cS ⟨rd,wr,a1,a2,a3,hv⟩ h;cases QG:(D.isSome&&Nat.beq s.mark 0) with
     |false=>rw[QG] at cS h;have zQ:=Nat.eq_of_beq_eq_true (show Nat.beq (iz D s).mark 0=true from cS);obtain⟨rfl,rfl⟩:=a3 zQ;exact hn _ _ _ hv h
     |true=>
      rw[QG] at h;obtain⟨QH,hd2⟩:=and_true.1 QG;cases D with
      |none=>cases QH
      |some acc=>
       have hm:s.mark=0:=Nat.eq_of_beq_eq_true hd2;have a1:∀k∈rd,k∈R:=fun k hk=>(a1 k hk).resolve_right (by show ¬k∈([]:List Nat);simp);have a2:∀k∈wr,k∈W:=fun k hk=>(a2 k hk).resolve_right (by show ¬k∈([]:List Nat);simp);have h:nx v ⟨h2,(iz (some acc) s).nx+1,(iz (some acc) s).mark,R,W⟩ p:=h;rw[←ct] at h;obtain⟨t1,hp,h⟩:=bc h;refine lX.op ho hw hv hp ?_;have H:=ih n _ _ rs k C G hG hk hC hL hR hB h;have e:DR (some acc) s ⟨h2,(iz (some acc) s).nx+1,(iz (some acc) s).mark,rd,wr⟩=DR (some acc) s ⟨h2,(iz (some acc) s).nx+1,(iz (some acc) s).mark,R,W⟩:=by show Dv s _=Dv s _;unfold Dv;rw[hm,HK,HK,HK,HK]
       rw[e];exact qD.cover (PU:=acc++[Kk i s ⟨h2,(iz (some acc) s).nx+1,(iz (some acc) s).mark,R,W⟩]) (nh.app (nh.refl acc) ⟨⟨rfl,fun n h=>Tb a1 n h,fun n h=>Tb a2 n h,rfl,rfl⟩,trivial⟩) H
    show lX E.P (aZ E.P E.sp E.F n) G f nt K ops D i t s;unfold XR at h;split at h
    ·obtain⟨x,h1,h⟩:=bc h;obtain⟨a,h2,h⟩:=bc h;obtain⟨b,h3,h⟩:=bc h;obtain⟨a1,h4,h⟩:=bc h;obtain⟨b1,h5,h⟩:=bc h;obtain⟨h6,h⟩:=gU h;obtain⟨c,h7,hy,lZ⟩:=bc h;have h6:=of_decide_eq_true h6;have e:=RM h1;rw[qY h4] at h2;rw[qY h5, ←h6] at h3;obtain⟨r,hr,XS⟩:=adg h7;have hv:(dI E.P op).val (aZ E.P E.sp E.F n) t (iz D s)= .ok (.bool r) (iz D s):=by rw[e];exact aeN h2 h3 hr
     cases r with
     |true=>exact hn _ _ _ hv<|hy<|XS.1 rfl
     |false=>exact hn _ _ _ hv (lZ fun q=>by have:=XS.2 q;cases this)
    ·obtain⟨v',s1,h1,rfl,h⟩:=FJ h;exact hn _ _ _ h1 h
    ·obtain⟨x,h1,h⟩:=bc h;obtain⟨m,hm,h⟩:=bc h;obtain⟨val,h2,h⟩:=bc h;obtain⟨h3,h4,h⟩:=gU h;have e:=E5 hm;exact hn _ _ _ (by rw[e];exact As h1<|hE.uq _ _ _ _ _ _ h2 h4 h3) h
    ·obtain⟨x,h1,h⟩:=bc h;obtain⟨m,hm,h⟩:=bc h;obtain⟨val,h2,h⟩:=bc h;obtain⟨h3,h4,hy,lZ⟩:=gU h;have e:=E5 hm;have hv:=fun b (h4:val x.2=some (.bool b))=>(show(dI E.P op).val (aZ E.P E.sp E.F n) t (iz D s)= .ok (.bool b) (E.cs<|iz D s) by rw[e];exact As (P:=E.P) h1<|hE.uq _ _ _ _ _ m h2 h4 h3);exact ab3 h4 hy lZ (fun q h=>hn _ _ _ (hv _ q) h) fun q h=>hn _ _ _ (hv _ q) h
    ·obtain⟨x,h1,h2,h⟩:=bc h;exact hn _ _ _ (As h1 h2) h
    ·obtain⟨x,h1,h2,h3,h⟩:=bc h;exact hn _ _ _ (As h1<|h2 _ h3) h
    ·obtain⟨x,h1,h⟩:=bc h;obtain⟨a,h2,h⟩:=bc h;obtain⟨a',h3,h⟩:=bc h;obtain⟨b,h4,h⟩:=bc h;obtain⟨m,h5,h⟩:=bc h;obtain⟨i1,h6,h⟩:=bc h;obtain⟨hb,k1,k2,k3,k4,k5,k6,k7,h⟩:=gU h;obtain⟨b1,hb⟩:=and_true.1 hb;obtain⟨b0,hb⟩:=and_true.1 hb;obtain⟨b2,hb⟩:=and_true.1 hb;obtain⟨b3,hb⟩:=and_true.1 hb;obtain⟨b4,b5⟩:=and_true.1 hb;have b1:=Nat.eq_of_beq_eq_true b1;obtain⟨ty,e,e1,e2,e3,e4,e5⟩:=Hz h6;cases iu:E.P.info? e with
     |none=>rw[iu] at e3;cases e3
     |some i0=>rw[iu] at e3;simp only[Option.map_some,Option.some.injEq,Prod.mk.injEq] at e3;obtain⟨q1,q2,q3⟩:=e3;rw[ab2 h3,k1,k2,b1, ←q1] at h2;rw[Z7 h5] at h4;rw[←q1] at k5 k7 h b0;rw[←q2] at k6 e5;refine lE _ _ _ _ _ b5 ?_ h;rw[Hy h1];obtain⟨rd,wr,d1,d2,d3,d4⟩:=aeT h2 h4 e1 e2 iu (by rw[q3,e4];rfl) k3 k4 (by rw[b2,b3,b4];rfl) k5 ((blt_eq _ _).mp b0) e5 k6 k7;exact⟨rd,wr,fun k hk=>by rcases d1 k hk with rfl|rfl|h;exact .inl jI;exact .inl jI;exact .inr h,fun k hk=>by rcases d2 k hk with rfl|h;exact .inl jI;exact .inr h,d3,d4⟩
    ·obtain⟨x,h1,h⟩:=bc h;obtain⟨a,h2,h⟩:=bc h;obtain⟨a',h3,h⟩:=bc h;obtain⟨ad,h4,h⟩:=bc h;obtain⟨z,h5,h⟩:=bc h;obtain⟨z',h6,h⟩:=bc h;obtain⟨K1,h7,h⟩:=bc h;obtain⟨h8,h9,gG,h⟩:=gU h;refine hn _ _ _ ?_ h;rw[LQ h1];rw[ZD h3,h4] at h2;obtain⟨n0,o0⟩:=ad;have h8:o0=0:=Nat.eq_of_beq_eq_true h8;subst h8;rw[qY h6] at h5;exact agf h2 h5 h7 h9 gG
    ·obtain⟨x,h1,h⟩:=bc h;obtain⟨a,h2,h⟩:=bc h;obtain⟨a',h3,h⟩:=bc h;obtain⟨z,h5,h⟩:=bc h;obtain⟨z',h6,h⟩:=bc h;obtain⟨K1,h7,h9,gG,h⟩:=bc h;refine hn _ _ _ ?_ h;rw[LQ h1];rw[Ta h3] at h2;rw[qY h6] at h5;exact aeZ h2 h5 h7 h9 gG
    ·obtain⟨x,h1,h⟩:=bc h;obtain⟨a,h2,h⟩:=bc h;obtain⟨a',h3,h⟩:=bc h;obtain⟨ag,h4,h⟩:=bc h;obtain⟨k1,h5,h⟩:=bc h;obtain⟨h6,h⟩:=gU h;obtain⟨h7,h⟩:=gU h;obtain⟨v,h8,h9,h⟩:=bc h;refine hn _ _ _ ?_ h;rw[Hu h1];rw[HJ h3] at h2;exact Ph h2 h4 h5 h6 h7 h8 h9
    ·obtain⟨x,h1,h⟩:=bc h;obtain⟨a,h2,h⟩:=bc h;obtain⟨a',h3,h⟩:=bc h;obtain⟨ag,h4,h⟩:=bc h;obtain⟨h5,h⟩:=gU h;obtain⟨h7,h8,hy,lZ⟩:=gU h;have h5:ag=false:=by simpa using h5
     subst h5;rw[HJ h3] at h2;exact aaS hy lZ (fun e h=>hn _ _ _ (by rw[Hu h1];exact Ph h2 h4 rfl rfl h7 rfl<|by rw[h8,e]) h) fun e h=>hn _ _ _ (by rw[Hu h1];exact Ph h2 h4 rfl rfl h7 rfl<|by rw[h8,e]) h
    ·obtain⟨x,h1,h⟩:=bc h;obtain⟨a,h2,h⟩:=bc h;obtain⟨a',h3,h⟩:=bc h;obtain⟨ag,h4,h⟩:=bc h;obtain⟨z,hz,h⟩:=bc h;obtain⟨k1,h5,h⟩:=bc h;obtain⟨v,h8,h9,gG,h⟩:=bc h;refine hn _ _ _ ?_ h;rw[Hu h1];rw[Z9 h3] at h2;exact ae1 h2 h4 hz h5 h8 h9 gG
    ·obtain⟨x,h1,h⟩:=bc h;obtain⟨a,h2,h⟩:=bc h;obtain⟨a',h3,h⟩:=bc h;obtain⟨v,h4,h⟩:=bc h;obtain⟨k1,h5,h⟩:=bc h;obtain⟨h6,h⟩:=gU h;obtain⟨h7,h⟩:=gU h;obtain⟨h8,h⟩:=gU h;obtain⟨h9,gG,h⟩:=gU h;refine hn _ _ _ ?_ h;rw[YZ h1];rw[HJ h3] at h2;exact ae0 h2 h4 h5 h6 h7 h8 h9 gG
    ·obtain⟨x,h1,h⟩:=bc h;obtain⟨h6,h⟩:=gU h;obtain⟨a,h2,h⟩:=bc h;obtain⟨b,h3,h⟩:=bc h;obtain⟨a1,h4,h⟩:=bc h;obtain⟨b1,h5,h⟩:=bc h;obtain⟨h8,h7,h⟩:=gU h;have ea:x.1= .rem:=by revert h6;split<;>intro h6<;>first|assumption|cases h6
     have h8:=of_decide_eq_true h8;refine hn _ _ _ ?_ h;rw[RM h1];rw[qY h4] at h2;rw[qY h5, ←h8] at h3;exact agh ea h2 h3 h7
    ·obtain⟨x,h1,h⟩:=bc h;obtain⟨a,h2,h⟩:=bc h;obtain⟨a',h3,h⟩:=bc h;obtain⟨b,h4,h⟩:=bc h;obtain⟨b',h5,h⟩:=bc h;obtain⟨i1,h6,h⟩:=bc h;obtain⟨hb,k1,k2,k3,k4,k5,k6,k7,k8,h⟩:=gU h;obtain⟨b1,hb⟩:=and_true.1 hb;obtain⟨b2,hb⟩:=and_true.1 hb;obtain⟨b3,b4⟩:=and_true.1 hb;obtain⟨ty,e,e1,e2,e3,e4,e5⟩:=Hz h6;cases iu:E.P.info? e with
     |none=>rw[iu] at e3;cases e3
     |some i0=>rw[iu] at e3;simp only[Option.map_some,Option.some.injEq,Prod.mk.injEq] at e3;obtain⟨q1,q2,q3⟩:=e3;rw[AG h3] at h2;rw[Ta h5] at h4;rw[←q1] at k4 k6 k8 h b1;rw[←q2] at k7 e5;refine lE _ _ _ _ _ b4 ?_ h;rw[Hy h1];obtain⟨rd,wr,d1,d2,d3,d4⟩:=aeS (s:=iz D s) (YR:=aZ E.P E.sp E.F n) h2 k1 h4 e1 e2 iu (by rw[q3,e4];rfl) b1 k3 (fun s'=>ab4 k4) k5 k2 (by rw[b2,b3];rfl) k6 e5 k7 k8;exact⟨rd,wr,fun k hk=>by rcases d1 k hk with rfl|h;exact .inl jI;exact .inr h,fun k hk=>by rcases d2 k hk with rfl|h;exact .inl jI;exact .inr h,d3,d4⟩
    ·obtain⟨x,h1,h2,h⟩:=bc h;exact hn _ _ _ (Z6 h1 h2) h
    ·obtain⟨x,h1,h⟩:=bc h;obtain⟨a,h2,h⟩:=bc h;obtain⟨a',h3,h⟩:=bc h;obtain⟨z,h5,h⟩:=bc h;obtain⟨z',h6,h⟩:=bc h;obtain⟨K1,h7,h9,gG,h⟩:=bc h;refine hn _ _ _ ?_ h;rw[LQ h1];rw[HJ h3] at h2;rw[qY h6] at h5;exact aeY h2 h5 h7 h9 gG
    ·obtain⟨x,h1,h⟩:=bc h;obtain⟨m,hm,h⟩:=bc h;obtain⟨q,h2,h⟩:=bc h;obtain⟨z,h3,h⟩:=bc h;obtain⟨u,h4,h⟩:=bc h;obtain⟨h5,h6,h⟩:=gU h;obtain⟨c1,h5⟩:=and_true.1 h5;obtain⟨c2,h5⟩:=and_true.1 h5;obtain⟨c3,h5⟩:=and_true.1 h5;obtain⟨c4,c5⟩:=and_true.1 h5;have e:=E5 hm;have c2:q.1=u.1:=Nat.eq_of_beq_eq_true c2;refine hn _ _ _ ?_ h;rw[e];refine As h1 ?_;rw[ZF h3];exact hE.tt _ _ _ _ _ _ _ _ _ h2 c1 c3 c4 c5 (by rw[aaT h4,c2]) h6
    ·obtain⟨x,h1,h⟩:=bc h;obtain⟨m,hm,h⟩:=bc h;obtain⟨q,h2,h⟩:=bc h;obtain⟨h5,h6,h⟩:=gU h;obtain⟨c1,c2⟩:=and_true.1 h5;have e:=E5 hm;refine hn _ _ _ ?_ h;rw[e];exact As h1<|hE.tn _ _ _ _ _ _ _ h2 c1 c2 h6
    ·obtain⟨x,h1,h⟩:=bc h;obtain⟨a,h2,h⟩:=bc h;obtain⟨n',h3,h⟩:=bc h;obtain⟨i',h4,h⟩:=bc h;obtain⟨i1,h5,h⟩:=bc h;obtain⟨y,h6,h⟩:=bc h;obtain⟨hb,h7,h8,h9⟩:=gU h;obtain⟨b1,hb⟩:=and_true.1 hb;obtain⟨b2,hb⟩:=and_true.1 hb;obtain⟨b3,hb⟩:=and_true.1 hb;obtain⟨b4,b5⟩:=and_true.1 hb;rw[S9 h3] at h2;rw[qY h5,MD b3] at h4;have key:=aeU (P:=E.P) (YR:=aZ E.P E.sp E.F n) h2 h4 (Ss h6) b1 b2 (ab1 b4) h7 b5;rw[←YY h1] at key;cases hq:lG _ i1.2 with
     |true=>rw[hq,if_pos rfl] at key;exact hn _ _ _ key<|h8 hq
     |false=>rw[hq,if_neg (by intro e;cases e)] at key;exact hn _ _ _ key<|h9 hq
    ·obtain⟨x,h1,h⟩:=bc h;obtain⟨a,h2,h⟩:=bc h;obtain⟨n',h3,h⟩:=bc h;obtain⟨i',h4,h⟩:=bc h;obtain⟨i1,h5,h⟩:=bc h;obtain⟨v',h8,h⟩:=bc h;obtain⟨v1,h9,h⟩:=bc h;obtain⟨y,h6,h⟩:=bc h;obtain⟨hb,h7,h⟩:=gU h;obtain⟨b1,hb⟩:=and_true.1 hb;obtain⟨b2,hb⟩:=and_true.1 hb;obtain⟨b3,hb⟩:=and_true.1 hb;obtain⟨b4,hb⟩:=and_true.1 hb;obtain⟨b5,b6⟩:=and_true.1 hb;refine hn _ _ _ ?_ h;rw[Zm h1];rw[S9 h3] at h2;rw[qY h5,MD b3] at h4;rw[qY h9,MD b4] at h8;exact aeV h2 h4 h8 (Ss h6) b1 b2 h7 b5 b6
    ·obtain⟨x,h1,h⟩:=bc h;obtain⟨a,h2,h⟩:=bc h;obtain⟨a',h3,h⟩:=bc h;obtain⟨K1,h4,h⟩:=bc h;obtain⟨nX,h5,h⟩:=bc h;obtain⟨iu,h6,h⟩:=bc h;obtain⟨h7,h8,h9,k1,hz⟩:=gU h;rw[h8] at h5;rw[AG h3] at h2;refine hn _ _ _ ?_ hz;rw[Y0 h1];exact agi h2 h4 h5 h6 h7 h9 k1
    ·obtain⟨x,h1,h⟩:=bc h;obtain⟨a,h2,h⟩:=bc h;obtain⟨a',h3,h⟩:=bc h;obtain⟨K1,h4,h⟩:=bc h;obtain⟨hi,h5,h⟩:=bc h;obtain⟨iu,h6,h⟩:=bc h;obtain⟨mx,h7,h⟩:=bc h;obtain⟨Ec,h8,h⟩:=bc h;obtain⟨h9,k1,k2,k3,h⟩:=gU h;rw[AG h3] at h2;rw[qY h6] at h5;rw[qY h8] at h7;refine hn _ _ _ ?_ h;rw[YT h1];exact agj h2 h4 h5 h7 h9 k1 k2 k3
    ·obtain⟨x,h1,h⟩:=bc h;obtain⟨a,h2,h⟩:=bc h;obtain⟨a',h3,h⟩:=bc h;obtain⟨b,h4,h⟩:=bc h;obtain⟨b',h5,h⟩:=bc h;obtain⟨i1,h6,h⟩:=bc h;obtain⟨hb,k0,k1,k2,k3,k4,k5,k6,k7,k8,k9,sc,yr,h⟩:=gU h;obtain⟨b1,hb⟩:=and_true.1 hb;obtain⟨b2,hb⟩:=and_true.1 hb;obtain⟨b3,b4⟩:=and_true.1 hb;obtain⟨ty,e,e1,e2,e3,e4,e5⟩:=Hz h6;cases iu:E.P.info? e with
     |none=>rw[iu] at e3;cases e3
     |some i0=>rw[iu] at e3;simp only[Option.map_some,Option.some.injEq,Prod.mk.injEq] at e3;obtain⟨q1,q2,q3⟩:=e3;rw[AG h3,k0] at h2;rw[AG h5] at h4;rw[←q1] at k6 k7 k8 h;rw[←q2] at sc e5;refine lE _ _ _ _ _ b4 ?_ h;rw[Hy h1];obtain⟨rd,wr,d1,d2,d3,d4⟩:=aeW (s:=iz D s) (YR:=aZ E.P E.sp E.F n) h2 h4 e1 e2 iu (by rw[q3,e4];rfl) k1 k2 k3 k4 k5 k6 k7 k8 (by rw[b1,b2,b3];rfl) k9 e5 sc yr;exact⟨rd,wr,fun k hk=>by rcases d1 k hk with rfl|rfl|h;exact .inl jI;exact .inl jI;exact .inr h,fun k hk=>.inr<|d2 k hk,d3,d4⟩
    ·obtain⟨x,h1,h⟩:=bc h;obtain⟨a,h2,h⟩:=bc h;obtain⟨a',h3,h⟩:=bc h;obtain⟨b,h4,h⟩:=bc h;obtain⟨b',h5,h⟩:=bc h;obtain⟨i1,h6,h⟩:=bc h;obtain⟨hb,k0,kk,k1,k2,k3,k4,k5,k6,k7,k8,k9,sc,yr,h⟩:=gU h;obtain⟨b0,hb⟩:=and_true.1 hb;obtain⟨b1,hb⟩:=and_true.1 hb;obtain⟨b2,b3⟩:=and_true.1 hb;obtain⟨ty,e,e1,e2,e3,e4,e5⟩:=Hz h6;cases iu:E.P.info? e with
     |none=>rw[iu] at e3;cases e3
     |some i0=>rw[iu] at e3;simp only[Option.map_some,Option.some.injEq,Prod.mk.injEq] at e3;obtain⟨q1,q2,q3⟩:=e3;rw[AG h3,k0] at h2;rw[AG h5] at h4;rw[←q1] at k6 k7 k8 h b0;rw[←q2] at sc e5;refine hn _ _ _ ?_ h;rw[Hy h1];exact aeX (s:=iz D s) (YR:=aZ E.P E.sp E.F n) h2 h4 e1 e2 iu (by rw[q3,e4];rfl) kk k1 (by unfold xJ at b0;exact(blt_eq _ _).mp b0) k2 k3 k4 k5 k6 k7 k8 (by rw[b1,b2,b3];rfl) k9 e5 sc yr
    ·obtain⟨x,h1,h⟩:=bc h;obtain⟨m,hm,h⟩:=bc h;have e:=E5 hm;split at h
     ·exact h.elim
     ·rename_i ur;obtain⟨fn,cm,h⟩:=bc h;obtain⟨body,cw,h⟩:=bc h;obtain⟨dF,h⟩:=gU h;obtain⟨oP,h⟩:=gU h;have dF:(fn.name == "runtime.NumGoroutine")=false:=by simpa using dF
      have H:=ih m _ _ _ nx (fun _ _ _=>False) (Ev E.P (aZ E.P E.sp E.F m) fun aO jm s1=>∃v s2 p,finish E.P fn.results.toList aO jm s1= .ok v s2/\nx v s2 p) Chunk.ev (fun fr s j aO jm s1 v s2 p q1 q2 q3=>⟨j,aO,jm,s1,q1,v,s2,p,q2,q3⟩) (fun _ _ _ q=>q.elim) (fun _ _ _ _ _ _ _ _ _ _ _ _ _ _ _ q=>q.elim) (fun _ _ _ _ _ _ _ _ _ _ _ _ _ _ _ q=>q.elim) (fun _ _ _ _ _ _ _ _ _ _ _ _ _ _ _ _ q=>q.elim) h;obtain⟨j,aO,jm,s1,q1,v,s2,p,q2,q3⟩:=H;refine hn _ _ _ (As h1 ?_) q3;rw[e];show jK E.P E.sp x.1 (aZ E.P E.sp E.F m) x.2 _=_;rw[Nf ur cm cw dF];unfold u6;rw[oP,dA,M.bL<|HU q1];exact q2
    ·exact h.elim
theorem aT{B:Prop}(c:Prop)(x:c->A)(y:¬c->B):(c->A)/\(¬c->B):=⟨x,y⟩
theorem au.back{P:Program}{s:AS}{t:Tr AV}{nt f:Nat}{K:List Item}{o:List<|Nat×Option ae}{nx:Nat}(hl:pL top l=true)(ho:pL nx o=true)(hn:(Nat.ble nx s.nx&&(Nat.blt s.nx top&&Nat.ble J nx))=true)(hg:fL<=J)(ht:xH t l)(hh:xW s.h o)(he:tO nx l o)(H:au P B J Q ⟨f,aC l,nt,K,[],none⟩<|ah o nx):au P B J Q ⟨f,t,nt,K,[],none⟩ s:=by
 obtain⟨n1,n2⟩:=and_true.1 hn;obtain⟨n2,n3⟩:=and_true.1 n2;have n1:=aK.1 n1;have n2:=(blt_eq _ _).mp n2;have n3:=aK.1 n3;let r:Nat->Nat:=fun k=>if k<nx\/top<=k then k else max k s.nx
 have r1:∀k,k<nx->r k=k:=fun k hk=>by show(if _ then _ else _)=_;rw[if_pos<|.inl hk]
 have r2:∀k,top<=k->r k=k:=fun k hk=>by show(if _ then _ else _)=_;rw[if_pos<|.inr hk]
 obtain⟨e1,e2⟩:=he r r1 r2;refine au.weaken (s2:=ah o nx) (t2:=aC l) [] r (fun k hk=>r1 k aj) (fun k hk ht=>?_) r2 hg ⟨Nat.zero_le _,by show nx<=top;omega⟩ rfl rfl (fun _ h=>by cases h) (fun i y hy=>?_) (fun n o2 hn hg=>?_) (fun _ h=>by cases h) (fun n m x y hn hm h1 h2 e=>?_) H
 ·have Eb:nx<=k:=hk;show s.nx<=(if _ then _ else _)/\(if _ then _ else _)<top;rw[if_neg aj];omega
 ·have hm:=CH (fun p hp=>wO hl p hp) hy;exact⟨y,ht.mem _ hm,(e1 _ hm).z⟩
 ·have cO:∀p∈o,p.1<top:=fun p hp=>by have:=wO ho p hp;omega
  have hm:=uQ cO hg;obtain⟨h1,h2⟩:=hh.mem _ hm;have cf:n<nx:=wO ho _ hm;rw[r1 n cf];exact⟨hn,.inl<|h2 o2 rfl,o2,h1,fM.refl _,(e2 _ hm o2 rfl).z⟩
 ·have cO:∀p∈o,p.1<top:=fun p hp=>by have:=wO ho p hp;omega
  have a1:n<nx:=wO ho _<|uQ cO h1;have a2:m<nx:=wO ho _<|uQ cO h2;rw[r1 n a1,r1 m a2] at e;exact e
theorem au.rn{P:Program}{s:AS}{t:Tr AV}{nt f:Nat}{K:List Item}{l0:List<|Nat×AV}{o0 o:List<|Nat×Option ae}{nx:Nat}(hg:fL<=J)(h1:l0.map (fun q=>t.get q.1)=l0.map (fun q=>some q.2))(h2:o0.map (fun q=>s.h.get q.1)=o0.map (fun q=>q.2))(hw:hU B.F J s.nx l0 o0 l o nx)(H:au P B J Q ⟨f,aC l,nt,K,[],none⟩<|ah o nx):au P B J Q ⟨f,t,nt,K,[],none⟩ s:=by
 obtain⟨fz,r,r1,r2,r3,r4,r5,r6,r7,r8,r9⟩:=hw;have hs:∀(l0:List<|Nat×AV),l0.map (fun q=>t.get q.1)=l0.map (fun q=>some q.2)->∀p∈l0,t.get p.1=some p.2:=by
  intro l0;induction l0 with
  |nil=>intro _ p hp;cases hp
  |cons a l ih=>
   intro h p hp;simp only[List.map_cons,List.cons.injEq] at h;rcases List.mem_cons.1 hp with rfl|hp
   ·exact h.1
   ·exact ih h.2 p hp
 have ho:∀(o0:List<|Nat×Option ae),o0.map (fun q=>s.h.get q.1)=o0.map (fun q=>q.2)->∀p∈o0,s.h.get p.1=p.2:=by
  intro o0;induction o0 with
  |nil=>intro _ p hp;cases hp
  |cons a l ih=>
   intro h p hp;simp only[List.map_cons,List.cons.injEq] at h;rcases List.mem_cons.1 hp with rfl|hp
   ·exact h.1
   ·exact ih h.2 p hp
 have yu:∀n y,n<top->(fU o).get n=some y->(n,some y)∈o:=fun n y hn hg=>uQ (fun p hp=>(r6 p hp).1) hg;refine au.weaken (s2:=ah o nx) (t2:=aC l) fz r r1 (fun k hk ht=>r2 k hk ht) r3 hg ⟨Nat.zero_le _,r4⟩ rfl rfl (fun p hp=>?_) (fun i y hy=>?_) (fun n y hn hg=>?_) (fun p hp n y hn hg=>?_) (fun n m x y hn hm e1 e2 e=>?_) H
 ·obtain⟨q1,q2,N,t',z,q3,q4⟩:=r8 p hp;exact⟨q1,q2,N,t',z,ho o0 h2 _ q3,fun i x hx=>by obtain⟨i1,i2,i3,i4⟩:=q4 i x hx;exact⟨i1,i2,i3,fun ρ v hv=>AV.u7 aeR i4 hv⟩⟩
 ·have hm:=CH (fun p hp=>(r5 p hp).1) hy;obtain⟨_,x,hx,hv⟩:=r5 _ hm;exact⟨x,hs l0 h1 _ hx,hv⟩
 ·obtain⟨_,q⟩:=r6 _<|yu n y hn hg;obtain⟨q1,q2,x,q3,q4,q5⟩:=q y rfl;exact⟨q1,.inl q2,x,ho o0 h2 _ q3,q4,q5⟩
 ·exact r9 p hp _ (yu n y hn hg) jI
 ·exact r7 _ (yu n x hn e1) _ (yu m y hm e2) jI jI e
theorem wp_cut{E:Env}(hE:E.Ok){P:Program}(hP:E.P=P){f nt:Nat}{t:Tr AV}{K:List Item}{s:AS}{R:AV->AS->Prop}(bI:P.follows .mixedOrders=true)(hc:fT P B<|aZ E.P E.sp E.F n)(hl:∀t a,YQ<|aZ E.P E.sp E.F n t a)(hg:fL<=J)(eY:E.lo=J)(hF:B.F=E.F){C:x8}(hC:∀fr s p,C fr s p->au P B J (Fin P rs R) fr s)(fuel:Nat)(p:Pl)(x:T)(h:T=wp E fuel n (.fr f nt K t s) p rs (fun v s _=>R v s) C:=by as_aux_lemma=>kernel_rfl)(h0:Nat.ble J s.nx=true:=by as_aux_lemma=>kernel_rfl):au P B J (Fin P rs R) ⟨f,t,nt,K,[],none⟩ s:=by
 subst hP;have H:=CK hE fuel n (.fr f nt K t s) p rs (fun v s _=>R v s) C (zC E.P B J<|Fin E.P rs R) (Chunk.Em bI hc hl)
  (fun fr s j aO jm s1 v s2 p q1 q2 q3 h0=>au.leave bI hc hl q1 h0 ⟨v,s2,by rw[←E3];exact q2,q3⟩) (fun fr s p q _=>hC fr s p q)
  (fun f nt K t s l o nx p _ q1 q2 q3 q4 q5 q6 _=>au.less q1 q2 q3 hg q4 q5<|hC _ _ _ q6) (fun f nt K t s l0 o0 l o nx p _ q1 q2 q3 q4 _=>au.rn hg q1 q2 (by rw[←eY,hF];exact q3)<|hC _ _ _ q4) (fun f nt K t s l o nx p _ q1 q2 q3 q4 q5 q6 q7 _=>au.back q1 q2 (by rw[←eY];exact q3) hg q4 q5 q6<|hC _ _ _ q7) (h▸x)
 exact zC.start h0 H
theorem me{E:Env}(hE:E.Ok){P:Program}(hP:E.P=P){f nt:Nat}{t:Tr AV}{K:List Item}{s:AS}{R:AV->AS->Prop}(bI:P.follows .mixedOrders=true)(hc:fT P B<|aZ E.P E.sp E.F n)(hl:∀t a,YQ<|aZ E.P E.sp E.F n t a)(fuel:Nat)(p:Pl)(x:T)(h:T=wp E fuel n (.fr f nt K t s) p rs (fun v s _=>R v s) (fun _ _ _=>False):=by as_aux_lemma=>kernel_rfl)(h0:Nat.ble J s.nx=true:=by as_aux_lemma=>kernel_rfl):au P B J (Fin P rs R) ⟨f,t,nt,K,[],none⟩ s:=by subst hP;have H:=CK hE fuel n (.fr f nt K t s) p rs (fun v s _=>R v s) (fun _ _ _=>False) (zC E.P B J<|Fin E.P rs R) (Chunk.Em bI hc hl) (fun fr s j aO jm s1 v s2 p q1 q2 q3 h0=>au.leave bI hc hl q1 h0 ⟨v,s2,by rw[←E3];exact q2,q3⟩) (fun _ _ _ q=>q.elim) (fun _ _ _ _ _ _ _ _ _ _ _ _ _ _ _ q=>q.elim) (fun _ _ _ _ _ _ _ _ _ _ _ _ _ _ _ q=>q.elim) (fun _ _ _ _ _ _ _ _ _ _ _ _ _ _ _ _ q=>q.elim)<|h▸x;exact zC.start h0 H
def sd(E:Env)(n:Nat)(rs:List ResultVar)(R:AV->AS->Prop)(fr:AF)(s:AS):Prop:=Ev E.P (aZ E.P E.sp E.F n) (fun aO jm s1=>∃v s2,finish E.P rs aO jm s1= .ok v s2/\R v s2) fr s
theorem F5{E:Env}(hE:E.Ok)(uu:E.fg=false){f nt:Nat}{t:Tr AV}{K:List Item}{s:AS}{R:AV->AS->Prop}{C:x8}(hC:∀fr s p,C fr s p->sd E n rs R fr s)(fuel:Nat)(p:Pl)(x:T)(h:T=wp E fuel n (.fr f nt K t s) p rs (fun v s _=>R v s) C:=by as_aux_lemma=>kernel_rfl):sd E n rs R ⟨f,t,nt,K,[],none⟩ s:=CK hE fuel n (.fr f nt K t s) p rs (fun v s _=>R v s) C (sd E n rs R) Chunk.ev (fun fr s j aO jm s1 v s2 p q1 q2 q3=>⟨j,aO,jm,s1,q1,v,s2,q2,q3⟩) hC (fun _ _ _ _ _ _ _ _ _ q=>by rw[uu] at q;cases q) (fun _ _ _ _ _ _ _ _ _ _ _ q=>by rw[uu] at q;cases q) (fun _ _ _ _ _ _ _ _ _ q=>by rw[uu] at q;cases q)<|h▸x
theorem sd.call{E:Env}{g:Nat}{fn:Func}{body:Code}{args:List AV}{s:AS}{R:AV->AS->Prop}(cm:E.P.funcs[g]? =some fn)(cw:fn.body=some body)(H:sd E n fn.results.toList R ⟨g,dc args,max fn.ntmps args.length,[.code body],[],none⟩ s)(h0:((fn.name == "runtime.NumGoroutine"),(E.sp g).isNone,Nat.ble (max fn.ntmps args.length) top)=(false,true,true):=by as_aux_lemma=>kernel_rfl):∃v s2,aZ E.P E.sp E.F (n+1) (.fn g) args s= .ok v s2/\R v s2:=by
 injection h0 with dF h0
 injection h0 with ur oP
 have ahW:E.sp g=none:=Option.isNone_iff_eq_none.1 ur;obtain⟨j,aO,jm,s1,q1,v,s2,q2,q3⟩:=H;refine⟨v,s2,?_,q3⟩;show jK E.P E.sp g (aZ E.P E.sp E.F n) args s=_;rw[Nf ahW cm cw dF];unfold u6;rw[oP,dA,M.bL<|HU q1];exact q2
end Go.Rn
namespace Go.Rn
open Go.RowKit
variable {α:Type} {l:List α} {i K:Nat} {enc:α->List AV} {c c0 c':α} {r:List AV}
theorem tfb{A B:Prop}(b:Bool)(x:b=true->A)(y:b=false->B):(b=true->A)/\(b=false->B):=⟨x,y⟩
theorem mD(he:∀x,(enc x).length=K)(hl:l.length*K<=top)(hc:l[i]? =some c)(j k:Nat)(hj:Nat.ble (j+k) K=true):cellsOf (some<|aD enc l) (i*K+j) k=some (((enc c).drop j).take k):=by have rY:=aK.1 hj;obtain⟨q1,q2⟩:=UD he (k:=k) hc rY;show(match Nat.ble (i*K+j+k) (l.map enc).flatten.length with|true=>lS (Tr.fill (l.map enc).flatten 0 .nil) [] k (i*K+j)|false=>none)=_;rw[aK.2 q1];show lS (Tr.fill (l.map enc).flatten 0 .nil) [] k (i*K+j)=_;rw[L6 (by rw[yO he];exact hl) _ _ q1,q2]
theorem adh(he:∀x,(enc x).length=K)(hl:l.length*K<=top)(hc:l[i]? =some c0)(j k:Nat)(hj:Nat.ble (j+k) K=true):cellsOf (some<|aD enc<|l.set i c) (i*K+j) k=some (((enc c).drop j).take k):=mD he (by rw[List.length_set];exact hl) (TN hc) j k hj
theorem ru(he:∀x,(enc x).length=K)(hl:l.length*K<=top)(hc:l[i]? =some c)(j:Nat)(hr:enc c'=ij (enc c) j r)(hj:Nat.ble (j+r.length) K=true)(h1:r.all AV.bR=true):xI (some<|aD enc l) (i*K+j) r=some (aD enc<|l.set i c'):=by
 have rY:=aK.1 hj;obtain⟨q1,_⟩:=UD he (k:=r.length) hc rY;have Gl:=abY he hc hr rY;have hlen:(l.map enc).flatten.length<=top:=by rw[yO he];exact hl
 show(match (Nat.ble (i*K+j+r.length) (l.map enc).flatten.length&&(Nat.ble (l.map enc).flatten.length top&&r.all AV.bR)) with|true=>some (ae.cells (l.map enc).flatten.length (Tr.fill r (i*K+j)<|Tr.fill (l.map enc).flatten 0 .nil) [])|false=>none)=_;rw[show(Nat.ble (i*K+j+r.length) (l.map enc).flatten.length&&(Nat.ble (l.map enc).flatten.length top&&r.all AV.bR))=true from and_true.2 ⟨aK.2 q1,and_true.2 ⟨aK.2 hlen,h1⟩⟩];show some _=some _;congr 1;unfold aD;rw[S7 r _ _ q1 hlen,Gl,yO he,yO he,List.length_set]
theorem adi(he:∀x,(enc x).length=K)(hl:l.length*K<=top)(hc:l[i]? =some c0)(j:Nat)(hr:enc c'=ij (enc c) j r)(hj:Nat.ble (j+r.length) K=true)(h1:r.all AV.bR=true):xI (some<|aD enc<|l.set i c) (i*K+j) r=some (aD enc<|l.set i c'):=by rw[ru he (by rw[List.length_set];exact hl) (TN hc) j hr hj h1,List.set_set]
end Go.Rn
namespace Go.Rn
open Go.RowKit
def Gt(nx:Nat)(x:AV):Bool:=match x with
 | .U n _ _=>Nat.blt n nx&&Nat.blt n top
 | .func (.func _) [] []=>true
 | .slice none 0 (.known 0)=>true
 |x=>x.flat
theorem bp.aaU{r:Nat->Nat}{n o len:Nat}(e:r n=n)(h:n<top):bp r (.U n o len)<|.U n o len:=by intro ρ v k;simp only[VR] at k ⊢;exact k.imp id fun⟨b,sh,c,h1,h2⟩=>⟨b,sh,c,.inl ⟨by omega,(congrArg ρ e).trans<|h1.low aj⟩,h2⟩
theorem TS{nx:Nat}{x:AV}{r:Nat->Nat}(r1:∀k,k<nx->r k=k)(h:Gt nx x=true):bp r x x:=by
 unfold Gt at h;split at h
 ·obtain⟨h1,h2⟩:=and_true.1 h;exact bp.aaU (r1 _<|(blt_eq _ _).mp h1)<|(blt_eq _ _).mp h2
 ·intro ρ v k;simp only[VR,ay] at k ⊢;exact k
 ·exact bp.yN
 ·exact bp.flat h
noncomputable def Gu(nx:Nat)(t:Tr AV):Nat->Bool
 |0=>true
 |n+1=>(match t.get n with|some x=>Gt nx x|none=>true)&&Gu nx t n
theorem NS{nx:Nat}{t:Tr AV}:∀{n i:Nat} {x:AV},Gu nx t n=true->i<n->t.get i=some x->Gt nx x=true
 |0,_,_,_,h,_=>by omega
 |n+1,i,x,h,hi,hx=>by
  obtain⟨h1,h2⟩:=and_true.1 (show((match t.get n with|some x=>Gt nx x|none=>true)&&Gu nx t n)=true from h);by_cases q:i=n
  ·subst q;rw[hx] at h1;exact h1
  ·exact NS h2 aj hx
noncomputable def PV(nx:Nat)(o:ae):Bool:=match o with
 | .ro n t=>Gu nx t n
 | .tz n t=>Gu nx t n
 |_=>false
theorem ab5{nx:Nat}{o:ae}{r:Nat->Nat}(r1:∀k,k<nx->r k=k)(h:PV nx o=true):lW r o o:=by
 unfold PV at h;split at h
 ·intro ρ N ob k;simp only[OR] at k ⊢;obtain⟨c,e,fr,k1,k2,k3,k4⟩:=k;exact⟨c,e,fr,k1,k2,k3,fun i hi=>let ⟨x,v,a1,a2,a3,a4⟩:=k4 i hi;⟨x,v,a1,a2,a3,TS r1 (NS h hi a1) ρ v a4⟩⟩
 ·intro ρ N ob k;simp only[OR] at k ⊢;obtain⟨c,e,fr,k1,k4⟩:=k;exact⟨c,e,fr,k1,fun i hi=>let ⟨x,v,a1,a2,a3,a4⟩:=k4 i hi;⟨x,v,a1,a2,a3,TS r1 (NS h hi a1) ρ v a4⟩⟩
 ·cases h
theorem Fm{nx:Nat}{o:List<|Nat×Option ae}{r:Nat->Nat}(r1:∀k,k<nx->r k=k)(h:(o.all fun p=>match p.2 with|some x=>PV nx x|none=>true)=true):∀p∈o,∀x,p.2=some x->lW r x x:=by intro p hp x hx;have:=List.all_eq_true.1 h p hp;rw[hx] at this;exact ab5 r1 this
end Go.Rn
namespace Go.Rn
theorem QI{α:Type}(enc:α->List AV)(l:List α)(c:α){K nY:Nat}{X:Prop}(h1:∀x,(enc x).length=K/\(enc x).all AV.bR=true)(h2:2*(l.length+1)*nY+4096*nY<=room)(h3:(l.length+1)*K<=Rn.top)(x:X):l.length=l.length/\l.length=l.length/\some (aD enc l)=some (aD enc l)/\some (ae.cells (enc c).length (Tr.fill (enc c) 0 .nil) [])=some (ae.cells (enc c).length (Tr.fill (enc c) 0 .nil) [])/\(∀x,(enc x).length=K/\(enc x).all AV.bR=true)/\2*(l.length+1)*nY+4096*nY<=room/\(l.length+1)*K<=Rn.top/\X:=⟨rfl,rfl,rfl,rfl,h1,h2,h3,x⟩
end Go.Rn
namespace Go.Rn
open Go.RowKit
variable {J K k:Nat} {α:Type} {ρ:Ren} {v x:AV} {enc:α->List AV} {args cs:List AV} {w:World} {ns:List Nat} {h0 h:Tr ae} {B:aI}
def qm:List Nat->Nat
 |[]=>0
 |x::l=>pr x<|qm l
theorem VB(a b:Nat):0<pr a b:=Nat.mul_pos (Nat.pow_pos aj) aj
theorem MI:∀{l m:List Nat},qm l=qm m->l=m
 |[],[],_=>rfl
 |[],x::m,h=>by have:=VB x<|qm m;simp only[qm] at h;omega
 |x::l,[],h=>by have:=VB x<|qm l;simp only[qm] at h;omega
 |x::l,y::m,h=>by obtain⟨h1,h2⟩:=fK (show pr x (qm l)=pr y (qm m) from h);rw[h1,MI h2]
def Bm:Int->Nat
 | .ofNat n=>2*n
 | .negSucc n=>2*n+1
theorem aaV:∀{a b:Int},Bm a=Bm b->a=b
 | .ofNat n,.ofNat m,h=>by have h:2*n=2*m:=h;rw[show n=m by omega]
 | .ofNat n,.negSucc m,h=>by have h:2*n=2*m+1:=h;omega
 | .negSucc n,.ofNat m,h=>by have h:2*n+1=2*m:=h;omega
 | .negSucc n,.negSucc m,h=>by have h:2*n+1=2*m+1:=h;rw[show n=m by omega]
def xK:AV->Nat
 | .bool b=>pr 0 b.toNat
 | .int k n=>pr 1<|pr k.ctorIdx<|Bm n
 | .str s=>pr 2<|qm<|s.data.toList.map UInt8.toNat
 | .U n o len=>pr 3<|pr n<|pr o len
 | .nilFunc=>pr 4 0
 | .nilIface=>pr 4 1
 | .ptr none=>pr 4 2
 | .map none=>pr 4 3
 |_=>0
def AV.gh(x:AV):Bool:=match x with
 | .bool _| .int _ _| .str _| .nilFunc| .nilIface| .ptr none| .map none=>true
 | .U n _ _=>Nat.ble top n
 |_=>false
theorem ab6:∀{k l:IntKind},k.ctorIdx=l.ctorIdx->k=l:=by intro k l h;cases k<;>cases l<;>first|rfl|(exact absurd h iD)
theorem bytes_inj{s u:ByteArray}(h:s.data.toList.map UInt8.toNat=u.data.toList.map UInt8.toNat):s=u:=by
 have e:s.data.toList=u.data.toList:=by
  refine List.ext_getElem? fun i=>?_;have:=congrArg (fun l=>l[i]?) h;simp only[List.getElem?_map] at this;cases e1:s.data.toList[i]? with
  |none=>rw[e1] at this;cases e2:u.data.toList[i]? with
   |none=>rfl
   |some y=>rw[e2] at this;cases this
  |some x=>rw[e1] at this;cases e2:u.data.toList[i]? with
   |none=>rw[e2] at this;cases this
   |some y=>rw[e2] at this;simp only[Option.map_some,Option.some.injEq] at this;rw[UInt8.toNat_inj.1 this]
 obtain⟨⟨a⟩⟩:=s;obtain⟨⟨b⟩⟩:=u;have e:a=b:=e;rw[e]
theorem aaW:∀{x y:AV},x.gh=true->y.gh=true->xK x=xK y->x=y:=by
 intro x y hx hy h;cases x<;>first|(cases hx;done)|skip
 case bool a=>
  cases y<;>first|(cases hy;done)|skip
  case bool b=>have:=(fK (show pr 0 a.toNat=pr 0 b.toNat from h)).2;cases a<;>cases b<;>first|rfl|(exact absurd this iD)
  case ptr b=>cases b<;>first|(cases hy;done)|(exact absurd (fK (show pr 0 a.toNat=pr 4 2 from h)).1 iD)
  case map b=>cases b<;>first|(cases hy;done)|(exact absurd (fK (show pr 0 a.toNat=pr 4 3 from h)).1 iD)
  all_goals exact absurd (fK (show pr 0 a.toNat=pr _ _ from h)).1 iD
 case int k n=>
  cases y<;>first|(cases hy;done)|skip
  case int k' n'=>obtain⟨h3,h4⟩:=fK (fK (show pr 1 (pr k.ctorIdx<|Bm n)=pr 1 (pr k'.ctorIdx<|Bm n') from h)).2;rw[ab6 h3,aaV h4]
  case ptr b=>cases b<;>first|(cases hy;done)|(exact absurd (fK (show pr 1 _=pr 4 2 from h)).1 iD)
  case map b=>cases b<;>first|(cases hy;done)|(exact absurd (fK (show pr 1 _=pr 4 3 from h)).1 iD)
  all_goals exact absurd (fK (show pr 1 _=pr _ _ from h)).1 iD
 case str u=>
  cases y<;>first|(cases hy;done)|skip
  case str u'=>rw[bytes_inj<|MI (fK (show pr 2 _=pr 2 _ from h)).2]
  case ptr b=>cases b<;>first|(cases hy;done)|(exact absurd (fK (show pr 2 _=pr 4 2 from h)).1 iD)
  case map b=>cases b<;>first|(cases hy;done)|(exact absurd (fK (show pr 2 _=pr 4 3 from h)).1 iD)
  all_goals exact absurd (fK (show pr 2 _=pr _ _ from h)).1 iD
 case U n o l=>
  cases y<;>first|(cases hy;done)|skip
  case U n' o' l'=>obtain⟨h3,h4⟩:=fK (fK (show pr 3 (pr n<|pr o l)=pr 3 (pr n'<|pr o' l') from h)).2;obtain⟨h5,h6⟩:=fK h4;rw[h3,h5,h6]
  case ptr b=>cases b<;>first|(cases hy;done)|(exact absurd (fK (show pr 3 _=pr 4 2 from h)).1 iD)
  case map b=>cases b<;>first|(cases hy;done)|(exact absurd (fK (show pr 3 _=pr 4 3 from h)).1 iD)
  all_goals exact absurd (fK (show pr 3 _=pr _ _ from h)).1 iD
 case nilFunc=>
  cases y<;>first|(cases hy;done)|rfl|skip
  case ptr b=>cases b<;>first|(cases hy;done)|(exact absurd (fK (show pr 4 0=pr 4 2 from h)).2 iD)
  case map b=>cases b<;>first|(cases hy;done)|(exact absurd (fK (show pr 4 0=pr 4 3 from h)).2 iD)
  case nilIface=>exact absurd (fK (show pr 4 0=pr 4 1 from h)).2 iD
  all_goals exact absurd (fK (show pr 4 0=pr _ _ from h)).1 iD
 case nilIface=>
  cases y<;>first|(cases hy;done)|rfl|skip
  case ptr b=>cases b<;>first|(cases hy;done)|(exact absurd (fK (show pr 4 1=pr 4 2 from h)).2 iD)
  case map b=>cases b<;>first|(cases hy;done)|(exact absurd (fK (show pr 4 1=pr 4 3 from h)).2 iD)
  case nilFunc=>exact absurd (fK (show pr 4 1=pr 4 0 from h)).2 iD
  all_goals exact absurd (fK (show pr 4 1=pr _ _ from h)).1 iD
 case ptr a=>
  cases a<;>first|(cases hx;done)|skip
  cases y<;>first|(cases hy;done)|skip
  case ptr b=>cases b<;>first|(cases hy;done)|rfl
  case map b=>cases b<;>first|(cases hy;done)|(exact absurd (fK (show pr 4 2=pr 4 3 from h)).2 iD)
  case nilIface=>exact absurd (fK (show pr 4 2=pr 4 1 from h)).2 iD
  case nilFunc=>exact absurd (fK (show pr 4 2=pr 4 0 from h)).2 iD
  all_goals exact absurd (fK (show pr 4 2=pr _ _ from h)).1 iD
 case map a=>
  cases a<;>first|(cases hx;done)|skip
  cases y<;>first|(cases hy;done)|skip
  case ptr b=>cases b<;>first|(cases hy;done)|(exact absurd (fK (show pr 4 3=pr 4 2 from h)).2 iD)
  case map b=>cases b<;>first|(cases hy;done)|rfl
  case nilIface=>exact absurd (fK (show pr 4 3=pr 4 1 from h)).2 iD
  case nilFunc=>exact absurd (fK (show pr 4 3=pr 4 0 from h)).2 iD
  all_goals exact absurd (fK (show pr 4 3=pr _ _ from h)).1 iD
theorem Su:∀{l m:List AV},l.all AV.gh=true->m.all AV.gh=true->l.map xK=m.map xK->l=m
 |[],[],_,_,_=>rfl
 |[],_::_,_,_,h=>by cases h
 |_::_,[],_,_,h=>by cases h
 |x::l,y::m,hx,hy,h=>by obtain⟨a1,a2⟩:=and_true.1 (show(x.gh&&l.all AV.gh)=true from hx);obtain⟨b1,b2⟩:=and_true.1 (show(y.gh&&m.all AV.gh)=true from hy);simp only[List.map_cons,List.cons.injEq] at h;rw[aaW a1 b1 h.1,Su a2 b2 h.2]
noncomputable section
def nm(cs:List AV):Nat:=top+2+qm (cs.map xK)
open Classical in
def FU(n:Nat):Option<|List AV:=if h:∃cs:List AV,cs.all AV.gh=true/\nm cs=n then some h.choose else none
def aw(enc:α->List AV)(l:List α):AV:=.U (nm (l.map enc).flatten) 0 l.length
end
theorem cN(cs:List AV):top<=nm cs:=Nat.le_trans (Nat.le_add_right top 2)<|Nat.le_add_right _ _
theorem zj(cs:List AV):nm cs≠top/\nm cs≠top+1:=by unfold nm;omega
theorem Dx(h:cs.all AV.gh=true):FU (nm cs)=some cs:=by have hx:∃ds:List AV,ds.all AV.gh=true/\nm ds=nm cs:=⟨cs,h,rfl⟩;unfold FU;rw[dif_pos hx];obtain⟨h1,h2⟩:=hx.choose_spec;exact congrArg some<|Su h1 h<|MI (by have h3:top+2+qm (hx.choose.map xK)=top+2+qm (cs.map xK):=h2;omega)
theorem HW(h:x.gh=true):x.bR=true:=by cases x<;>first|rfl|(cases h;done)
theorem CL(h:x.gh=true):x.cP=true:=by
 cases x<;>first|rfl|(cases h;done)|skip
 ·rename_i a;cases a with
  |none=>rfl
  |some _=>cases h
 ·exact h
 ·rename_i a;cases a with
  |none=>rfl
  |some _=>cases h
theorem ae2(h:cs.all AV.gh=true){off:Nat}(hk:off+k<=cs.length):cG FU (nm cs) off k=some ((cs.drop off).take k):=by unfold cG;rw[Dx h];simp only[(aK.2 hk:Nat.ble (off+k) cs.length=true)]
structure mo {α:Type} (K:Nat) (enc:α->List AV):Prop where
 len:∀a,(enc a).length=K
 gh:∀a,(enc a).all AV.gh=true
theorem mo.all(h:mo K enc):∀l:List α,(l.map enc).flatten.all AV.gh=true
 |[]=>rfl
 |a::l=>by rw[List.map_cons,List.flatten_cons,List.all_append,h.gh a,mo.all h l];rfl
theorem mo.length(h:mo K enc)(l:List α):(l.map enc).flatten.length=l.length*K:=by
 have:=uK (K:=K) (l:=l.map enc) fun c hc=>by obtain⟨a,_,rfl⟩:=List.mem_map.1 hc;exact h.len a
 rw[this,List.length_map]
theorem xq(h:mo K enc){l:List α}{i:Nat}{a:α}(ha:l[i]? =some a)(j k:Nat)(hk:j+k<=K):cG FU (nm (l.map enc).flatten) (i*K+j) k=some (((enc a).drop j).take k):=by
 have hi:=(List.getElem?_eq_some_iff.1 ha).1;have hle:i*K+K<=(l.map enc).flatten.length:=by rw[h.length];have:=Nat.mul_le_mul_right K (show i+1<=l.length from hi);rw[Nat.add_mul,Nat.one_mul] at this;exact this
 rw[ae2 (h.all l) aj];have hf:=Me (l:=l.map enc) (K:=K) (i:=i) (c:=enc a) (fun c hc=>by obtain⟨a,_,rfl⟩:=List.mem_map.1 hc;exact h.len a) (by rw[List.getElem?_map,ha];rfl);have hd:((l.map enc).flatten.drop<|i*K+j).take k=((((l.map enc).flatten.drop<|i*K).take K).drop j).take k:=by rw[List.drop_take,List.take_take,List.drop_drop,Nat.min_eq_left aj]
 rw[hd,hf]
def gj(J:Nat)(ρ:Ren):Ren:=fun k=>if k<J then ρ k else gp ρ k
def rB(B:aI)(ρ:Ren)(w:World):aI:=⟨fun k=>w.heap.size<=k,B.F,fun k=>ρ k≠none,B.inv,B.lim,B.mono⟩
theorem sR(ht:J<=top)(hk:top<=k):gj J ρ k=ρ k:=by unfold gj gp;rw[if_neg aj,if_pos hk]
noncomputable section
def px(J:Nat)(ns:List Nat)(h0:Tr ae)(val:List AV->Option AV):aJ->List AV->M AV:=fun _ args=>aF (args.all AV.hi) <| (fI J h0 ns).bind fun _=>aA (val args) fun v=>aF v.hi <| M.pure v
end
theorem YQ.px(J:Nat)(ns:List Nat)(h0:Tr ae)(val:List AV->Option AV)(YR:aJ)(args:List AV):YQ<|px J ns h0 val YR args:=YQ.aF fun _=>YQ.bind (YQ.fI J h0 ns) fun _=>YQ.aA fun _ _=>YQ.aF fun _=>YQ.pure _
theorem HF{o p:ae}(h:ou J o p=true):o.mL=true:=by unfold ou at h;split at h<;>first|rfl|cases h
theorem Dy(ht:J<=top)(r:Rel B ρ h w)(dL:∀n o,n<top->h0.get n=some o->n∈ns)(eC:∀n∈ns,n<J)(a3:∀n∈ns,∃o p,h.get n=some o/\h0.get n=some p/\ou J o p=true):Rel (rB B ρ w) (gj J ρ) h0 w:=by
 have cr:∀n o,n<top->h0.get n=some o->o.mL=true/\∃b N o',gj J ρ n=some (b,N)/\w.heap[b]? =some o'/\OR (gj J ρ) N o o':=by
  intro n o hn ho;have ir:=dL n o hn ho;obtain⟨p1,p2,c2,c3,c4⟩:=a3 n ir;rw[ho] at c3;cases c3;obtain⟨b,N,o',i1,i2,i3,_⟩:=r.is n p1 hn c2;obtain⟨j1,j2⟩:=Z2 c4 i3;refine⟨j1,b,N,o',?_,i2,j2.mono fun k x e=>?_⟩
  ·unfold gj;rw[if_pos<|eC n ir];exact i1
  ·have e:(if k<J then ρ k else none)=some x:=e;unfold gj;split at e
   ·rename_i q;rw[if_pos q];exact e
   ·cases e
 refine⟨fun n o hn ho=>?_,fun n m o p b N M hn hm h1 h2 cS _ _=>?_,fun n m es ex left cur hn ho=>?_,fun _ hk=>hk,fun i j m es ex left cur gY iW iH iJ hi _ h1 _=>?_,fun n b sh e=>?_,uf.no (fun n k v hn hg=>by have:=(cr n _ hn hg).1;cases this) ⟨r.tk.1.1,fun n o hn ho _=>by have ir:=dL n o hn ho;obtain⟨p1,p2,c2,c3,c4⟩:=a3 n ir;rw[ho] at c3;cases c3;obtain⟨b,N,e1,e2⟩:=r.tk.1.2 n p1 hn c2<|HF c4;exact⟨b,N,by unfold gj;rw[if_pos<|eC n ir];exact e1,e2⟩⟩⟩
 ·obtain⟨h1,b,N,o',h2,h3,h4⟩:=cr n o hn ho;have h1:=ae.ki h1;exact⟨b,N,o',h2,h3,h4,fun q=>by rw[h1] at q;cases q⟩
 ·have e1:=ae.ki (cr n o hn h1).1;have e2:=ae.ki (cr m p hm h2).1;rw[e1,e2] at cS;rcases cS with q|q<;>cases q
 ·have:=(cr n _ hn ho).1;cases this
 ·have:=(cr i _ hi h1).1;cases this
 ·rw[sR ht<|gf _ _ _] at e;obtain⟨_,l,c,e',fr,g1,g2,g3,g4⟩:=r.fz n b sh e;refine⟨.inl e,l,c,e',fr,g1,g2,fun m o N hm ho hr _=>?_,fun i x hx=>?_⟩
  ·rw[ae.ki (cr m o hm ho).1] at hr;cases hr
  ·obtain⟨v,k1,k2,k3⟩:=g4 i x hx;refine⟨v,k1,VR.mono (fun k y q=>?_) _ _ k2,k3⟩;unfold gp at q ⊢;split at q
   ·rename_i hk;rw[if_pos hk,sR ht hk];exact q
   ·cases q
def cF(ρ σ:Ren):Ren:=fun k=>if top<=k then σ k else ρ k
theorem Jg{σ:Ren}{h4:Tr ae}{w':World}{a:Nat}(ht:J<=top)(r:Rel B ρ h w)(q3:Rel (rB B ρ w) σ h4 w')(q4:cx (rB B ρ w) w w')(hle:(gj J ρ).le σ):
 Ext a a ρ (cF ρ σ)/\jl σ (cF ρ σ)/\Rel B (cF ρ σ) h w'/\cx B w w':=by
 have hold:∀k x,top<=k->ρ k=some x->σ k=some x:=fun k x hk e=>hle k x (by rw[sR ht hk];exact e);have hl:ρ.le<|cF ρ σ:=by
  intro k x e;unfold cF;by_cases hk:top<=k
  ·rw[if_pos hk];exact hold k x hk e
  ·rw[if_neg hk];exact e
 have cO:∀k,k<top->cF ρ σ k=ρ k:=fun k hk=>by unfold cF;rw[if_neg aj]
 have Bx:cx B w w':=⟨q4.os,q4.tape,q4.output,q4.size,fun k hk _=>q4.block k hk (by show ¬(w.heap.size<=k);omega)⟩;have JT:∀b,b<w.heap.size->w'.heap[b]? =w.heap[b]? :=fun b hb=>q4.block b hb (by show ¬(w.heap.size<=b);omega);refine⟨⟨hl,fun k hk _=>cO k hk⟩,fun k x hk e=>by unfold cF;rw[if_pos hk];exact e,⟨?_,?_,?_,fun k hk=>r.size k<|Nat.le_trans q4.size hk,r.lone,?_,r.tk.of hl (fun _ _ _ e _=>e) q4.size (fun b hb _=>JT b hb) (fun b1 _ hn m o N hm ho hr hb=>hn m o N hm ho hr (by rw[cO m hm] at hb;exact hb)) (fun j x sh hx _ e=>by
  unfold cF;rw[if_pos<|gf _ _ _];refine Classical.byContradiction fun q=>?_;rcases(q3.fz j x sh q).1 with z|z
  ·exact z e
  ·exact absurd hx (by have z:w.heap.size<=x:=z;omega))⟩,Bx⟩
 ·intro n o hn ho;obtain⟨b,N,o',h1,h2,h3,h5⟩:=r.is n o hn ho;exact⟨b,N,o',(cO n hn).trans h1,(JT b<|ib h2).trans h2,h3.mono hl,h5⟩
 ·intro n m o p b N M hn hm h1 h2 cS e1 e2;rw[cO n hn] at e1;rw[cO m hm] at e2;exact r.one n m o p b N M hn hm h1 h2 cS e1 e2
 ·intro n m es ex left cur hn ho;obtain⟨hm,fu,b,N,bm,M,l,bq,seen,h1,h2,h3,h5,h6⟩:=r.iter n m es ex left cur hn ho;have u:mV ρ w' n m es ex left cur:=⟨b,N,bm,M,l,bq,seen,h1,h2,(JT b<|ib h3).trans h3,(JT bm<|ib h5).trans h5,h6⟩;exact⟨hm,fu,u.mono hl⟩
 ·intro n b sh e;have e:σ (hn n b sh)≠none:=by unfold cF at e;rw[if_pos<|gf _ _ _] at e;exact e
  obtain⟨g0,l,c,e',fr,g1,g2,_,g4⟩:=q3.fz n b sh e;have gI:(gp σ).le<|gp<|cF ρ σ:=by
   intro k x q;unfold gp at q ⊢;split at q
   ·rename_i hk;rw[if_pos hk];unfold cF;rw[if_pos hk];exact q
   ·cases q
  have mH:∀i x,l[i]? =some x->∃v,c[sh+i]? =some v/\VR (gp<|cF ρ σ) x v/\x.bR=true:=fun i x hx=>by obtain⟨v,k1,k2,k3⟩:=g4 i x hx;exact⟨v,k1,VR.mono gI _ _ k2,k3⟩
  by_cases q:ρ (hn n b sh)≠none
  ·obtain⟨z0,l',c',e2,kv,z1,z2,z3,_⟩:=r.fz n b sh q;refine⟨z0,l,c,e',fr,g1,g2,fun m o N hm ho hr hb=>?_,mH⟩;rw[cO m hm] at hb;exact z3 m o N hm ho hr hb
  ·have hb:w.heap.size<=b:=g0.resolve_left q;refine⟨.inr<|r.size b hb,l,c,e',fr,g1,g2,fun m o N hm ho hr fm=>?_,mH⟩;rw[cO m hm] at fm;obtain⟨b1,N1,o1,h1,h2,_⟩:=r.is m o hm ho;rw[fm] at h1;cases h1;have:=ib h2;omega
noncomputable section
def bj(val:List AV->Option AV)(args:List AV):Option AV:=match args.all AV.hi with
 |true=>(val args).bind fun v=>match v.hi with
  |true=>some v
  |false=>none
 |false=>none
end
theorem eO{val:List AV->Option AV}(h:val args=some v)(ha:args.all AV.hi=true)(hv:v.hi=true):bj val args=some v:=by unfold bj;rw[ha,h];simp only[Option.bind_some,hv]
theorem ab7{val:List AV->Option AV}(h:bj val args=some v):val args=some v/\args.all AV.hi=true/\v.hi=true:=by
 unfold bj at h;split at h
 ·rename_i ha;cases e:val args with
  |none=>rw[e] at h;cases h
  |some u=>
   rw[e] at h;simp only[Option.bind_some] at h;split at h
   ·rename_i hu;injection h with h;subst h;exact⟨rfl,ha,hu⟩
   ·cases h
 ·cases h
theorem aaX{val:List AV->Option AV}{YR:aJ}{s:AS}(h:bj val args=some v)(hc:pM J h0 ns s=true):px J ns h0 val YR args s= .ok v (dC J h0 ns s):=by obtain⟨h1,h2,h3⟩:=ab7 h;unfold px;rw[h2,dA,M.bL<|xp hc,h1,bV,h3,dA];rfl
end Go.Rn
namespace Go.Rn
open Go.RowKit
variable {n:Nat} {o:Option ae}
noncomputable def ll(n:Nat)(o:Option ae):M Unit:=fun s=>
 @AS.rec (fun _=>R Unit) (fun h nx mark rd wr=>
  @Bool.rec (fun _=>R Unit) .bad
   (@Option.rec ae (fun _=>R Unit) .bad
    (fun p=> @Bool.rec (fun _=>R Unit)
     (@Bool.rec (fun _=>R Unit) (.ok () ⟨h.put n o,nx,mark,rd,wr⟩) (.ok () ⟨h.put n o,nx,mark,n::rd,n::wr⟩)<|Nat.blt n mark)
     .bad (!p.kV))
    (h.get n))
   (and (Nat.blt n nx)<|Nat.blt n top)) s
theorem UF{u:Unit}{s s1:AS}(h:ll n o s= .ok u s1):
 n<s.nx/\n<top/\(∃p,s.h.get n=some p/\(!p.kV)=false)/\s1=if n<s.mark then{s with h:=s.h.put n o,rd:=n::s.rd,wr:=n::s.wr} else{s with h:=s.h.put n o}:=by
 obtain⟨hh,nx,mark,rd,wr⟩:=s;have e:ll n o ⟨hh,nx,mark,rd,wr⟩= @Bool.rec (fun _=>R Unit) .bad
  (@Option.rec ae (fun _=>R Unit) .bad
   (fun p=> @Bool.rec (fun _=>R Unit)
    (@Bool.rec (fun _=>R Unit) (.ok () ⟨hh.put n o,nx,mark,rd,wr⟩) (.ok () ⟨hh.put n o,nx,mark,n::rd,n::wr⟩)<|Nat.blt n mark)
    .bad (!p.kV))
   (hh.get n))
  (and (Nat.blt n nx)<|Nat.blt n top):=rfl
 rw[e] at h;cases hb:and (Nat.blt n nx) (Nat.blt n top) with
 |false=>rw[hb] at h;cases h
 |true=>
  rw[hb] at h;have fm:=Bool.and_eq_true_iff.1 hb;rw[blt_eq,blt_eq] at fm;cases hg:hh.get n with
  |none=>rw[hg] at h;cases h
  |some p=>
   rw[hg] at h;cases hr:(!p.kV) with
   |true=>
    have h': @Bool.rec (fun _=>R Unit)
     (@Bool.rec (fun _=>R Unit) (.ok () ⟨hh.put n o,nx,mark,rd,wr⟩) (.ok () ⟨hh.put n o,nx,mark,n::rd,n::wr⟩)<|Nat.blt n mark)
     .bad (!p.kV)= .ok u s1:=h
    rw[hr] at h';cases h'
   |false=>
    have h': @Bool.rec (fun _=>R Unit)
     (@Bool.rec (fun _=>R Unit) (.ok () ⟨hh.put n o,nx,mark,rd,wr⟩) (.ok () ⟨hh.put n o,nx,mark,n::rd,n::wr⟩)<|Nat.blt n mark)
     .bad (!p.kV)= .ok u s1:=h
    rw[hr] at h';refine⟨fm.1,fm.2,⟨p,by first|exact hg|rfl,hr⟩,?_⟩;have ui: @Bool.rec (fun _=>R Unit) (.ok () ⟨hh.put n o,nx,mark,rd,wr⟩) (.ok () ⟨hh.put n o,nx,mark,n::rd,n::wr⟩) (Nat.blt n mark)= .ok u s1:=h';rw[yS] at ui;by_cases e:n<mark
    ·rw[if_pos e] at ui;injection ui with _ h3;simp[e, ←h3]
    ·rw[if_neg e] at ui;injection ui with _ h3;simp[e, ←h3]
theorem VC{s:AS}{p:ae}(h1:n<s.nx)(h2:n<top)(h3:s.h.get n=some p)(h4:(!p.kV)=false):
 ll n o s= .ok () (if n<s.mark then{s with h:=s.h.put n o,rd:=n::s.rd,wr:=n::s.wr} else{s with h:=s.h.put n o}):=by
 obtain⟨hh,nx,mark,rd,wr⟩:=s;have e:ll n o ⟨hh,nx,mark,rd,wr⟩= @Bool.rec (fun _=>R Unit) .bad
  (@Option.rec ae (fun _=>R Unit) .bad
   (fun p=> @Bool.rec (fun _=>R Unit)
    (@Bool.rec (fun _=>R Unit) (.ok () ⟨hh.put n o,nx,mark,rd,wr⟩) (.ok () ⟨hh.put n o,nx,mark,n::rd,n::wr⟩)<|Nat.blt n mark)
    .bad (!p.kV))
   (hh.get n))
  (and (Nat.blt n nx)<|Nat.blt n top):=rfl
 have hb:and (Nat.blt n nx) (Nat.blt n top)=true:=Bool.and_eq_true_iff.2 ⟨by rw[blt_eq];exact h1,by rw[blt_eq];exact h2⟩;have hg:hh.get n=some p:=h3;rw[e,hb,hg];show @Bool.rec (fun _=>R Unit) (@Bool.rec (fun _=>R Unit) (.ok () ⟨hh.put n o,nx,mark,rd,wr⟩) (.ok () ⟨hh.put n o,nx,mark,n::rd,n::wr⟩)<|Nat.blt n mark) .bad (!p.kV)=_;rw[h4];show @Bool.rec (fun _=>R Unit) (.ok () ⟨hh.put n o,nx,mark,rd,wr⟩) (.ok () ⟨hh.put n o,nx,mark,n::rd,n::wr⟩) (Nat.blt n mark)=_;rw[yS];by_cases e:n<mark<;>simp[e]
theorem YQ.ll(n:Nat)(o:Option ae):YQ<|ll n o:=by
 intro s v s1 fi h;obtain⟨h1,ht,⟨p,h2,h3⟩,rfl⟩:=UF h;by_cases e:n<s.mark
 ·rw[if_pos e];refine⟨[n],[n],⟨rfl,rfl,Nat.le_refl _,fi.nx,rfl,fun k hk hn=>?_,fun _ h=>h,fun k hk gu=>?_⟩,fun A m0 t ag hA=>?_⟩
  ·show(s.h.put n o).get k=_;rw[Tr.di _ _ _ _ ht (by have:=fi.mark;have:=fi.nx;omega),if_neg<|by simpa using hn]
  ·show(s.h.put n o).get k=_;have:s.nx<=k:=hk;rw[Tr.di _ _ _ _ ht gu,if_neg aj]
  ·have hq:A n\/m0<=n:=by
    by_cases q:n<m0
    ·exact .inl<|hA n jI q
    ·exact .inr aj
   have hg:=ag.is n h1 hq;have hr:=VC (o:=o) (s:=t) (n:=n) (p:=p) D9 ht Ea h3;rw[←ag.mark,if_pos e] at hr;refine⟨_,hr,⟨ag.nx,by first|exact ag.mark|rfl,ag.low,fun k hk hq=>?_⟩,rfl,rfl,fun k hk hn=>?_,fun k hk gu=>?_⟩
   ·show(s.h.put n o).get k=(t.h.put n o).get k;have Eb:k<s.nx:=hk;have:=fi.nx;rw[Tr.di _ _ _ _ ht aj,Tr.di _ _ _ _ ht aj];by_cases q:k=n
    ·simp[q]
    ·rw[if_neg q,if_neg q];exact ag.is k hk hq
   ·show(t.h.put n o).get k=_;have:=fi.mark;have:=fi.nx;have:=ag.low;rw[Tr.di _ _ _ _ ht aj,if_neg<|by simpa using hn]
   ·show(t.h.put n o).get k=_;have:s.nx<=k:=hk;rw[Tr.di _ _ _ _ ht gu,if_neg aj]
 ·rw[if_neg e];refine⟨[],[],⟨rfl,rfl,Nat.le_refl _,fi.nx,rfl,fun k hk hn=>?_,fun _ h=>h,fun k hk gu=>?_⟩,fun A m0 t ag hA=>?_⟩
  ·show(s.h.put n o).get k=_;have:=fi.mark;have:=fi.nx;rw[Tr.di _ _ _ _ ht aj,if_neg aj]
  ·show(s.h.put n o).get k=_;have:s.nx<=k:=hk;rw[Tr.di _ _ _ _ ht gu,if_neg aj]
  ·have hg:=ag.is n h1<|.inr<|Nat.le_trans ag.low aj;have hr:=VC (o:=o) (s:=t) (n:=n) (p:=p) D9 ht Ea h3;rw[←ag.mark,if_neg e] at hr;refine⟨_,hr,⟨ag.nx,by first|exact ag.mark|rfl,ag.low,fun k hk hq=>?_⟩,rfl,rfl,fun k hk hn=>?_,fun k hk gu=>?_⟩
   ·show(s.h.put n o).get k=(t.h.put n o).get k;have Eb:k<s.nx:=hk;have:=fi.nx;rw[Tr.di _ _ _ _ ht aj,Tr.di _ _ _ _ ht aj];by_cases q:k=n
    ·simp[q]
    ·rw[if_neg q,if_neg q];exact ag.is k hk hq
   ·show(t.h.put n o).get k=_;have:=fi.mark;have:=fi.nx;have:=ag.low;rw[Tr.di _ _ _ _ ht aj,if_neg aj]
   ·show(t.h.put n o).get k=_;have:s.nx<=k:=hk;rw[Tr.di _ _ _ _ ht gu,if_neg aj]
section
variable {P:Program} {B:aI} {ρ:Ren} {w:World} {s s1 s2:AS} {YR:aJ}
theorem au.FK{pR:Nat}(hP:bS P){g:FuncId}{fn:Func}{body:Code}{args:List AV}{vs:Array Value}{R:AV->AS->Prop}(cm:P.funcs[g]? =some fn)(cw:fn.body=some body)(oP:max fn.ntmps args.length<=top)(H:au P B pR (Fin P fn.results.toList R) ⟨g,dc args,max fn.ntmps args.length,[.code body],[],none⟩ s)(fi:bC s)(r:Rel B ρ s.h w)(hg:gD ρ)(hf:∀k,s.nx<=k->k<top->ρ k=none)(hv:ay ρ args vs.toList):
 Calls P g vs w fun e w'=>∃v x s3,e= .returned v/\R x s3/\bC s3/\∃σ,(∀k,k<pR->k<top->σ k=ρ k)/\(∀k x,top<=k->ρ k=some x->σ k=some x)/\VR σ x v/\Rel B σ s3.h w'/\cx B w w':=by
 intro cs;let b:Frame:={(default:Frame) with fn:=g,kind:=.normal,roundOf:=none};let a:Act:={tmps:=vs++Array.replicate (fn.ntmps - vs.size) undef,defers:=[]};have xm:Frame.enter P g vs .normal=b.atR a [.code body]:=by simp[Frame.enter,Frame.atR,cm,cw,b,a]
 have bD:Fr ρ ⟨g,dc args,max fn.ntmps args.length,[.code body],[],none⟩ b a:=⟨rfl,rfl,trivial,rfl,.cons (hP.code g fn body cm cw) .nil⟩;have ax:At B ρ s (max fn.ntmps args.length) (dc args) w a:=⟨Hx hv _ oP,r,hg,oP,fi⟩;obtain⟨fr,j,s2,σ,a',w',⟨x,s3,pK,hR⟩,en,e0,G6,e1,e2,e3,e4,e5,e6,e7,e8⟩:=H ρ w b a cs bD ax hf;have O8:finish P fn.results.toList fr j s2= .ok x s3:=by rw[E3];exact pK
 have zY:bC s2:=e2.cn;obtain⟨hj,u2,s4,rs,h7,h9,hx⟩:=Mc O8;have o6:bC s4:=(YQ.qZ _).cn zY h7;have pU:Leaves j fr.todo:=e7;obtain⟨d1,d2,w2,d3,d4,d5⟩:=Hw (P:=P) (fr:=b) (cs:=cs) zY e2.rel e3 h7;obtain⟨f1,f2,us,f3,f4⟩:=Ht (P:=P) (w:=w2) e2.tr o6 d3 h9;have ju:bC s3:=(YQ.sI P fr.tmps _).cn o6 h9;have Gp:Steps P (lone (b.atR a' fr.todo) cs w')<|lone {b.atR a' fr.todo with mode:=.returning} cs w':=by
  rcases hj with rfl|rfl
  ·have e:fr.todo=[]:=pU;rw[e];exact .one<|stepR_end rfl
  ·obtain⟨k,e⟩:=pU;rw[e];exact .one<|stepR_ret rfl
 have xG:=d5 {b.atR a' fr.todo with mode:=.returning} cs jI rfl;have lE:(results fn a'.tmps).run P w2= .ok (oq us) w2:=by
  unfold results;rw[Array.mapM_eq_mapM_toList];simp only[Sem.run_bind,map_eq_pure_bind,Sem.run_pure];refine Eq.trans (congrArg (fun r:Result (List Value)=>(r.andThen fun a w'=>Result.ok a.toArray w').andThen fun a w'=>Result.ok (if h:a.size=1 then a[0] else Value.tuple a) w') f3) ?_;have:∀l:List Value,(Result.ok (if h:l.toArray.size=1 then l.toArray[0] else Value.tuple l.toArray) w2:Result Value)= .ok (oq l) w2:=by
   intro l
   match l with
   |[]=>rfl
   |[v]=>rfl
   |v::v2::l=>simp[oq]
  exact this us
 refine⟨.returned<|oq us,w2,{b.atR a' fr.todo with mode:=.returning,defers:=[]},⟨_,x,s3,rfl,hR,ju,σ,e0,G6,?_⟩,?_,rfl,?_⟩
 ·exact⟨by rw[hx];exact My f4,by rw[f1];exact d3,e4.trans d4⟩
 ·rw[xm];exact Steps.trans e8<|Steps.trans Gp xG
 ·exact⟨rfl,rfl,rfl,fn,cm,lE⟩
end
abbrev TX:=Nat->AV->List (Nat×ae)->Prop
def yb(loc ρ:Ren):Ren:=fun m=>if top<=m then ρ m else loc m
theorem aaY{loc ρ σ:Ren}(h:∀m x,top<=m->ρ m=some x->σ m=some x):(yb loc ρ).le<|yb loc σ:=by
 intro k x e;unfold yb at e ⊢;split at e
 ·rename_i q;rw[if_pos q];exact h k x q e
 ·rename_i q;rw[if_neg q];exact e
inductive nJ (X:TX) (J:Nat):Nat->AV->Ren->World->Nat->(Nat->Prop)->Prop where
 | mk {k:Nat} {v:AV} {ρ:Ren} {w:World} {b:Nat} {H:Nat->Prop} (L:List<|Nat×ae) (loc:Ren) (bl:Nat->Nat) (H1:Nat->Nat->Prop) (N0:Nat)
   (hx:X k v L) (root:loc J=some (b,N0)) (low:∀m,m<J->loc m=none)
   (is:∀m o,(m,o)∈L->∃N o',loc m=some (bl m,N)/\w.heap[bl m]? =some o'/\OR (yb loc ρ) N o o'/\H (bl m))
   (one:∀m n o p,(m,o)∈L->(n,p)∈L->bl m=bl n->m=n)
   (tok:∀m k' v',(m,ae.tok k' v')∈L->nJ X J k' v' ρ w (bl m) (H1 m))
   (JU:∀m k' v',(m,ae.tok k' v')∈L->H1 m (bl m))
   (sub:∀m k' v',(m,ae.tok k' v')∈L->∀x,H1 m x->H x)
   (own:∀m k' v' n o,(m,ae.tok k' v')∈L->(n,o)∈L->o.kV=false->¬H1 m (bl n))
   (apart:∀m k' v' n K8 wg x,(m,ae.tok k' v')∈L->(n,ae.tok K8 wg)∈L->m≠n->H1 m x->¬H1 n x):nJ X J k v ρ w b H
theorem nJ.mono{X:TX}{J k:Nat}{v:AV}{ρ:Ren}{w:World}{b:Nat}{H:Nat->Prop}(h:nJ X J k v ρ w b H):∀{σ:Ren} {w':World},(∀m x,top<=m->ρ m=some x->σ m=some x)->(∀x,H x->w'.heap[x]? =w.heap[x]?)->nJ X J k v σ w' b H:=by
 induction h with
 |mk L loc bl H1 N0 hx root low is one tok JU sub own apart ih=>intro σ w' hm hw;refine .mk L loc bl H1 N0 hx root low (fun m o yu=>?_) one (fun m k' v' yu=>ih m k' v' yu hm fun x q=>hw x<|sub m k' v' yu x q) JU sub own apart;obtain⟨N,o',a1,a2,a3,a4⟩:=is m o yu;exact⟨N,o',a1,(hw _ a4).trans a2,a3.mono<|aaY hm,a4⟩
def lA(ns:List Nat)(o:ae):Prop:=∀(σ:Ren) (N:Nat) (o':Obj),OR σ N o o'->OR (fun m=>if top<=m\/m∈ns then σ m else none) N o o'
structure yv (X:TX) (J:Nat):Prop where
 nm:∀k v L,X k v L->∀p∈L,J<=p.1/\p.1<top/\(p.2.own=true\/p.2.kV=true)/\lA (L.map (·.1)) p.2
 root:∀k v L,X k v L->∃o,(J,o)∈L
theorem MJ:∀{L:List<|Nat×ae},(∀p∈L,p.1<n)->∀p∈aY L,p.1<n
 |[],_,p,hp=>by cases hp
 |a::l,h,p,hp=>by
  rcases List.mem_cons.1 hp with rfl|hp
  ·exact h a List.mem_cons_self
  ·exact MJ (fun q hq=>h q<|List.mem_cons_of_mem _ hq) p hp
end Go.Rn
