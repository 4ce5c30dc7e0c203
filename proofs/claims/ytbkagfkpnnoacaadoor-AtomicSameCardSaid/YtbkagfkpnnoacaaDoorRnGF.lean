import Derived.Test.YtbkagfkpnnoacaaDoorRnGE
set_option maxRecDepth 100000
set_option maxHeartbeats 8000000
set_option linter.unusedSimpArgs false
set_option linter.unusedVariables false
namespace Go.Rn
open Go.RowKit
variable {v:AV} {n k J o off:Nat} {x:TypeId×Operand×Operand} {cs:List AV} {α:Type} {B:aJ} {rs:List ResultVar} {ik:IntKind} {cap:bW} {ag b:Bool} {a:Nat×Nat} {T A c X:Prop} {x':Met} {ty:TypeId} {sp:Sp} {l:List<|Nat×AV} {Q:Tr AV->List Nat->Option Code->AS->Prop} {F:Nat->Option (List AV)}
noncomputable section
inductive Pl where
 |no
 |st (k:Nat) (p:Pl)
 |rg (p:Pl)
 |go (n:Nat) (p:Pl)
 |en (p:Pl)
 |fk (p q:Pl)
 |vl (v:AV) (p:Pl)
 |kn (v:AV) (p:Pl)
 |kp (c:Prop) (d:Decidable c) (p q:Pl)
 |ef (p q:Pl)
 |cu (v:AV) (s2:AS) (p:Pl)
 |cg (v:AV) (F:AS->AS) (Q:AS->Prop) (p:Pl)
 |ap (α:Type) (enc:α->List AV) (l:List α) (c:α) (p:Pl)
 |al (α:Type) (enc:α->List AV) (l L:List α) (p:Pl)
 |ix (p:Pl)
 |eB (p:Pl)
 |ld (cs:List AV) (p:Pl)
 |Xy (b:Bool) (p q:Pl)
 |eC (cs:List AV) (p:Pl)
 |mr (o:ae) (p:Pl)
 |rm (p:Pl)
 |ls (l:List<|Nat×AV) (o:List<|Nat×Option ae) (nx:Nat) (p:Pl)
 |rn (l0:List<|Nat×AV) (o0:List<|Nat×Option ae) (l:List<|Nat×AV) (o:List<|Nat×Option ae) (bw nx:Nat) (p:Pl)
 |bk (l:List<|Nat×AV) (o:List<|Nat×Option ae) (nx:Nat) (p:Pl)
 |cy (v:AV) (s2:AS) (p:Pl)
 |KR (p:Pl)
 |kt (y v':AV) (p:Pl)
 |nt (v:Option AV) (res:AV->AV) (p:Pl)
 |Xz (m:List<|Int×Int) (p q:Pl)
 |KS (m:List<|Int×Int) (p:Pl)
 |so (p:Pl)
 |s3 (p:Pl)
 |ao (L1 L2 l:List AV) (p:Pl)
 |an (L1 L2 l:List AV) (p:Pl)
 |il (p:Pl)
 |rt (k:Nat) (p:Pl)
 |cut (p:Pl)
inductive KT where
 |fr (f nt:Nat) (K:List Item) (t:Tr AV) (s:AS)
 |rg (f nt:Nat) (K:List Item) (ops:Array Oper) (D:Option<|List Met) (i:Nat) (t:Tr AV) (s:AS)
structure Env where
 P:Program
 sp:Sp
 F:Nat->Option (List AV)
 uh:FuncId->Option (List AV->Option AV)
 jn:FuncId->Bool
 ck:AS->Bool
 cs:AS->AS
 lo:Nat
 fg:Bool
 tt:FuncId->Option (Nat×(AV->List AV->Option (AV×AV)))
 tn:FuncId->Option (Nat×(List AV->Option (Option AV×(AV->AV))))
 n0:Nat
def tI(nx:Nat)(l:List<|Nat×AV)(o:List<|Nat×Option ae):Prop:=∀r:Nat->Nat,(∀k,k<nx->r k=k)->(∀k,top<=k->r k=k)->(∀p∈l,bg r p.2 p.2)/\(∀p∈o,∀x,p.2=some x->lS r x x)
def hJ(F:Nat->Option (List AV))(lo bw:Nat)(l0:List<|Nat×AV)(o0:List<|Nat×Option ae)(l:List<|Nat×AV)(o:List<|Nat×Option ae)(nx:Nat):Prop:=
 ∃(fz:kR) (r:Nat->Nat),(∀k,k<lo->r k=k)/\(∀k,nx<=k->k<top->bw<=r k/\r k<top)/\(∀k,top<=k->r k=k)/\nx<=top/\(∀p∈l,p.1<top/\∃x,(p.1,x)∈l0/\jC fz r x p.2)/\
  (∀p∈o,p.1<top/\∀y,p.2=some y->r p.1<top/\y.jP=true/\∃x,(r p.1,some x)∈o0/\fK x y/\fj fz r x y)/\
  (∀p∈o,∀q∈o,p.2≠none->q.2≠none->r p.1=r q.1->p.1=q.1)/\
  (∀p∈fz,p.1<top/\F p.2.1=some p.2.2/\∃N t z,(p.1,some<|.cells N t z)∈o0/\∀i x,p.2.2[i]? =some x->i<N/\cellAt t z i=some x/\x.bR=true/\x.cM=true)/\
  (∀p∈fz,∀q∈o,q.2≠none->r q.1≠p.1)
def XA(n k:Nat)(v:AV)(s:AS):AS:=fl n (some<|.tok k v)<|aU n s
def nwS(k:Nat)(v:AV)(s:AS):AS:=⟨s.h.put s.nx<|some<|.tok k v,s.nx+1,s.mark,s.rd,s.wr⟩
def XB(res:AV->AV)(s:AS):Option AV->AV
 |none=>res<|.ptr none
 |some _=>res<|.ptr<|some (s.nx,0)
def XC(k:Nat)(s:AS):Option AV->AS
 |none=>s
 |some v=>nwS k v s
structure Env.Ok (E:Env):Prop where
 uh:∀g val args v s n,E.uh g=some val->val args=some v->E.ck s=true->bc E.P E.sp E.F (n+1) (.fn g) args s= .ok v (E.cs s)
 tt:∀g q m v rest y v' s n,E.tt g=some q->E.ck s=true->Nat.ble E.n0 m=true->Nat.blt m (E.cs s).nx=true->Nat.blt m top=true->(E.cs s).h.get m=some (.tok q.1 v)->q.2 v rest=some (y,v')->
  bc E.P E.sp E.F (n+1) (.fn g) (.ptr (some (m,0))::rest) s= .ok y (XA m q.1 v'<|E.cs s)
 tn:∀g q args v res s n,E.tn g=some q->E.ck s=true->Nat.blt (E.cs s).nx top=true->q.2 args=some (v,res)->bc E.P E.sp E.F (n+1) (.fn g) args s= .ok (XB res (E.cs s) v) (XC q.1 (E.cs s) v)
 jn:∀g,E.jn g=true->False
def wo(o:Option α)(k:α->Prop):Prop:= @Option.rec α (fun _=>Prop) False k o
def wr(r:R α)(k:α->AS->Prop):Prop:= @R.rec α (fun _=>Prop) False k r
def wb(b:Bool)(k:Prop):Prop:= @Bool.rec (fun _=>Prop) False k b
def Kt:=AV->AS->Pl->Prop
def xT:=AF->AS->Pl->Prop
def Rec:=Nat->KT->Pl->List ResultVar->Kt->xT->Prop
def E5(op:Op):Option<|BinOp×TypeId×Operand×Operand×TypeId:=match op with
 | .binOp o ty x y yt=>some (o,ty,x,y,yt)
 |_=>none
def callParts(op:Op):Option<|Operand×Array Operand×Array TypeId:=match op with
 | .call ⟨.value fo,xs,ts⟩=>some (fo,xs,ts)
 |_=>none
def PC(fi args ca:List AV):List AV:=match fi,ca with
 |[],[]=>args
 |_,_=>fi++args++ca
def PD(v:AV):Option<|FuncId×List AV×List AV:=match v with
 | .func (.func g) fi ca=>some (g,fi,ca)
 |_=>none
def asInt(v:AV):Option<|IntKind×Int:=match v with
 | .int k n=>some (k,n)
 |_=>none
def asAgg(v:AV):Option<|List AV:=match v with
 | .agg l=>some l
 |_=>none
def asSlice(v:AV):Option<|Option (Nat×Nat)×Nat×bW:=match v with
 | .slice a n c=>some (a,n,c)
 |_=>none
def O4(x:bq):Option<|Nat×Nat×List Item×Tr AV:=match x with
 | .go ⟨f,t,nt,K,[],none⟩=>some (f,nt,K,t)
 |_=>none
def O5(x:bq):Option<|AF×Option Code:=match x with
 | .leave fr j=>some (fr,j)
 |_=>none
def NF(K:List Item):Option<|Array Oper×Bool×List Item:=match K with
 | .code (.region _ ops d)::K=>some (ops,d,K)
 |_=>none
def PE(o:BinOp)(a b:Int):Option Prop:=match o with
 | .lss=>some<|a<b
 | .leq=>some<|a<=b
 | .gtr=>some<|a>b
 | .geq=>some<|a>=b
 | .eql=>some<|a=b
 | .neq=>some<|a≠b
 |_=>none
def gO(D:Option<|List Met)(s:AS):AS:=match D with
 |none=>s
 |some _=>I4 s
def DG(D:Option<|List Met)(s s1:AS):AS:=match D with
 |none=>s1
 |some _=>Dk s s1
def Kb(D:Option<|List Met)(i:Nat)(s s1:AS):Option<|List Met:=match D with
 |none=>none
 |some acc=>some<|acc++[Ka i s s1]
def V5(d:Bool):Option<|List Met:=match d with
 |true=>some []
 |false=>none
def PF(P:Program)(YG:aK)(nt:Nat)(ops:Array Oper)(D:Option<|List Met)(i n:Nat)(t:Tr AV):M<|Tr AV×Option (List Met):=match D with
 |none=>fun s=>match pt P YG nt ops i n t s with
  | .ok t s=>.ok (t,none) s
  | .bad=>.bad
 |some acc=>fun s=>match tH P YG nt ops i n t s with
  | .ok x s=>.ok (x.1,some<|acc++x.2) s
  | .bad=>.bad
def JH(ops:Array Oper)(D:Option<|List Met):Bool:=match D with
 |none=>true
 |some acc=>qf (Region.before ops) acc acc
def Dl(n:Nat):Option Nat:=match n with
 |0=>none
 |n+1=>some n
def uX(t:Tr AV)(op:Op):Option<|FuncId×List AV:=match callParts op with
 |none=>none
 |some x=>match aH t x.1 with
  |none=>none
  |some fv=>match PD fv with
   |none=>none
   |some g=>match jS (aH t) x.2.1.toList with
    |none=>none
    |some args=>some (g.1,PC g.2.1 args g.2.2)
def NG(t:Tr AV)(op:Op):Option<|Nat×List AV:=match callParts op with
 |none=>none
 |some x=>match aH t x.1 with
  |some (.yield l)=>(match jS (aH t) x.2.1.toList with
   |none=>none
   |some args=>some (l,args))
  |_=>none
def E7(op:Op):Option<|TypeId×Operand×Operand:=match op with
 | .indexAddr ty x y=>some (ty,x,y)
 |_=>none
def EN(op:Op):Option<|TypeId×Operand:=match op with
 | .load ty a=>some (ty,a)
 |_=>none
def L6(op:Op):Option<|TypeId×Operand×Operand:=match op with
 | .store ty a x=>some (ty,a,x)
 |_=>none
def CA(op:Op):Option<|Operand×Operand×Array TypeId:=match op with
 | .call ⟨.builtin .append,xs,ts⟩=>match xs.toList with
  |[x,y]=>some (x,y,ts)
  |_=>none
 |_=>none
def PG(v:AV):Option<|Nat×Nat×Nat×Nat:=match v with
 | .slice (some (n,0)) len (.aq m k)=>some (n,len,m,k)
 |_=>none
def Oe(v:AV):Option Nat:=match v with
 | .slice (some (m,0)) 1 (.known 1)=>some m
 |_=>none
def CB(P:Program)(ts:Array TypeId):Option<|Nat×Nat:=match ts[0]? with
 |some ty=>match P.underlying ty with
  |some (.slice e)=>match P.info? e with
   |some i=>match ss i&&(po P ts[1]? && !(Nat.beq i.bytes 0)) with
    |true=>some (i.size,i.bytes)
    |false=>none
   |none=>none
  |_=>none
 |none=>none
def JI(v:AV):Option<|Nat×Nat×Nat:=match v with
 | .U n o k=>some (n,o,k)
 |_=>none
def Of(v:AV):Option<|Nat×Nat:=match v with
 | .pF n o=>some (n,o)
 |_=>none
def ra(P:Program)(ty:TypeId):Option Nat:=match P.underlying ty with
 |some (.slice e)=>eF P e
 |_=>none
def O6(P:Program)(ty:TypeId):Option<|Nat×Nat:=match P.underlying ty with
 |some (.array n e)=>(eF P e).map fun k=>(n,k)
 |_=>none
def cellsOf(o:Option ae)(off k:Nat):Option<|List AV:=match o with
 |some (.cells m t z)=>(match Nat.ble (off+k) m with|true=>lO t z k off|false=>none)
 |_=>none
def xA(o:Option ae)(off:Nat)(l:List AV):Option ae:=match o with
 |some (.cells m t z)=>(match (Nat.ble (off+l.length) m&&(Nat.ble m top&&l.all AV.bR)) with|true=>some (.cells m (Tr.fill l off t) z)|false=>none)
 |_=>none
def cv(F:Nat->Option (List AV))(n off k:Nat):Option<|List AV:=match F n with
 |some l=>(match Nat.ble (off+k) l.length with|true=>some ((l.drop off).take k)|false=>none)
 |none=>none
def xC(k:Nat):Bool:=Nat.blt 0 k
def Gk(ag:Bool)(cs:List AV):Option AV:=match ag with
 |true=>some<|.agg cs
 |false=>one cs
def Fy(P:Program)(ty:TypeId)(ag:Bool):Option Nat:=match ag with
 |true=>eF P ty
 |false=>some 1
def I5(o:Option ae):Bool:=match o with
 |none=>true
 |some o=>o.jP
def Kc(dr:Bool)(s:AS)(h:Tr ae)(R W:List Nat):AS:=match dr with
 |true=>⟨h,s.nx+1,s.mark,R,W⟩
 |false=>⟨h,s.nx+1,s.mark,s.rd,s.wr⟩
def xU(v:AV):Option<|Nat×Nat×bW:=match v with
 | .slice (some (n,0)) len cap=>some (n,len,cap)
 |_=>none
def L7(op:Op):Option<|TypeId×Operand×Option Operand×Option Operand:=match op with
 | .slice ty x lo hi none=>some (ty,x,lo,hi)
 |_=>none
def LQ(op:Op):Option<|TypeId×Operand×Operand×Operand:=match op with
 | .slice ty x none (some hi) (some mx)=>some (ty,x,hi,mx)
 |_=>none
def kept(c:bW):Bool:=match c with
 | .lost=>false
 |_=>true
def CX(t:Tr AV)(o:Option Operand)(d:Int):Option Int:=match o with
 |none=>some d
 |some y=>match aH t y with
  |some (.int _ n)=>some n
  |_=>none
def alv(op:Op):Option<|TypeId×Operand×Operand:=match op with
 | .lookup ty x i false=>some (ty,x,i)
 |_=>none
def L8(op:Op):Option<|TypeId×Operand×Operand:=match op with
 | .lookup ty x i true=>some (ty,x,i)
 |_=>none
def MZ(op:Op):Option<|TypeId×Operand×Operand×Operand:=match op with
 | .mapUpdate ty x i y=>some (ty,x,i,y)
 |_=>none
def JJ(v:AV):Option Nat:=match v with
 | .map (some n)=>some n
 |_=>none
def I6(P:Program)(ty:TypeId):Option<|TypeId×TypeId:=match P.underlying ty with
 |some (.map k e)=>some (k,e)
 |_=>none
def FW(k:IntKind):Bool:=match k with
 | .i64=>true
 |_=>false
def PH(v:Option AV):Bool:=match v with
 |some (.int .i64 (.ofNat 0))=>true
 |_=>false
def NH(l:List AV):Option<|Nat×List AV:=match l with
 | .ptr (some (n,0))::r=>some (n,r)
 |_=>none
def O7(o:Option ae):Option<|Nat×AV:=match o with
 |some (.tok k v)=>some (k,v)
 |_=>none
def XD(E:Env)(dr:Bool)(ih:Rec)(n:Nat)(nx:AV->AS->Pl->Prop)(s:AS)(t:Tr AV)(op:Op)(p:Pl):Prop:=match p with
 | .fk p q=>wo (E5 op) fun x=>wo (aH t x.2.2.1) fun a=>wo (aH t x.2.2.2.1) fun b=>wo (asInt a) fun a=>wo (asInt b) fun b=>wb (decide<|a.1=b.1)<|wo (PE x.1 a.2 b.2) fun c=>(c->nx (.bool true) s p)/\(¬c->nx (.bool false) s q)
 | .vl v p=>wr ((du E.P op).val (bc E.P E.sp E.F n) t s) fun v' s1=>v'=v/\nx v s1 p
 | .kn v p=>wo (uX t op) fun x=>wo (Dl n) fun _=>wo (E.uh x.1) fun val=>wb (E.ck s)<|val x.2=some v/\nx v (E.cs s) p
 | .kp c d p q=>wo (uX t op) fun x=>wo (Dl n) fun _=>wo (E.uh x.1) fun val=>wb (E.ck s)<|val x.2=some (.bool<|@decide c d)/\(c->nx (.bool true) (E.cs s) p)/\(¬c->nx (.bool false) (E.cs s) q)
 | .ef p q=>wo (E5 op) fun x=>wo (aH t x.2.2.1) fun a=>wo (aH t x.2.2.2.1) fun b=>wo (asAgg a) fun xs=>wo (asAgg b) fun ys=>wb (Ay E.P x.1 x.2.1 x.2.2.1 x.2.2.2.1 (.agg xs)<|.agg ys)<|wb (E3 E.P x.2.1)<|wb (!E.P.stoodInHeld x.2.1) (wo (AE E.P xs ys<|fieldsOf E.P x.2.1) fun l=>match x.1 with
  | .eql=>(allEq l=true->nx (.bool true) s p)/\(allEq l=false->nx (.bool false) s q)
  | .neq=>(allEq l=true->nx (.bool false) s p)/\(allEq l=false->nx (.bool true) s q)
  |_=>False)
 | .cu v s2 p=>wo (uX t op) fun x=>bc E.P E.sp E.F n (.fn x.1) x.2 s= .ok v s2/\nx v s2 p
 | .cg v F Q p=>wo (uX t op) fun x=>(∀s,Q s->bc E.P E.sp E.F n (.fn x.1) x.2 s= .ok v (F s))/\Q s/\nx v (F s) p
 | .ap _ enc l c p=>wo (CA op) fun x=>wo (aH t x.1) fun a=>wo (PG a) fun a=>wo (aH t x.2.1) fun b=>wo (Oe b) fun m=>wo (CB E.P x.2.2) fun i=>wb (Nat.beq a.2.2.2 i.1&&(xC i.1&&(Nat.blt a.1 s.nx&&(Nat.blt m s.nx&&(Nat.blt s.nx top&&(dr||Nat.beq s.mark 0))))))<|a.2.1=l.length/\a.2.2.1=l.length/\s.h.get a.1=some (aC enc l)/\s.h.get m=some (.cells (enc c).length (Tr.fill (enc c) 0 .nil) [])/\(∀x,(enc x).length=i.1/\(enc x).all AV.bR=true)/\2*(l.length+1)*i.2+4096*i.2<=room/\(l.length+1)*i.1<=top/\nx (.slice (some (s.nx,0)) (l++[c]).length<|.aq (l++[c]).length i.1) (Kc dr s ((s.h.put a.1 none).put s.nx<|some<|aC enc<|l++[c]) [a.1,m] [a.1]) p
 | .ix p=>wo (E7 op) fun x=>wo (aH t x.2.1) fun a=>wo (asSlice a) fun a=>wo a.1 fun ad=>wo (aH t x.2.2) fun z=>wo (asInt z) fun z=>wo (ra E.P x.1) fun K=>wb (Nat.beq ad.2 0)<|0<=z.2/\z.2<(Int.ofNat a.2.1)/\nx (.ptr<|some (ad.1,z.2.toNat*K)) s p
 | .eB p=>wo (E7 op) fun x=>wo (aH t x.2.1) fun a=>wo (JI a) fun a=>wo (aH t x.2.2) fun z=>wo (asInt z) fun z=>wo (ra E.P x.1) fun K=>0<=z.2/\z.2<(Int.ofNat a.2.2)/\nx (.pF a.1<|a.2.1+z.2.toNat*K) s p
 | .ld cs p=>wo (EN op) fun x=>wo (aH t x.2) fun a=>wo (addrOf a) fun a=>wo (qp E.P x.1) fun ag=>wo (Fy E.P x.1 ag) fun k=>wb (xC k)<|wb (Nat.blt a.1 s.nx)<|wo (Gk ag cs) fun v=>cellsOf (s.h.get a.1) a.2 k=some cs/\nx v (aU a.1 s) p
 | .Xy b p q=>wo (EN op) fun x=>wo (aH t x.2) fun a=>wo (addrOf a) fun a=>wo (qp E.P x.1) fun ag=>wb (!ag)<|wb (Nat.blt a.1 s.nx)<|cellsOf (s.h.get a.1) a.2 1=some [.bool b]/\(b=true->nx (.bool true) (aU a.1 s) p)/\(b=false->nx (.bool false) (aU a.1 s) q)
 | .eC cs p=>wo (EN op) fun x=>wo (aH t x.2) fun a=>wo (Of a) fun a=>wo (qp E.P x.1) fun ag=>wo (eF E.P x.1) fun _=>wo (Fy E.P x.1 ag) fun k=>wo (Gk ag cs) fun v=>top<=a.1/\cv E.F a.1 a.2 k=some cs/\nx v s p
 | .mr o p=>wo (L6 op) fun x=>wo (aH t x.2.1) fun a=>wo (addrOf a) fun a=>wo (aH t x.2.2) fun v=>wo (eF E.P x.1) fun k=>wb (Nat.beq v.cells.length k)<|wb (xC k)<|wb (Nat.blt a.1 s.nx)<|wb (Nat.blt a.1 top)<|xA (s.h.get a.1) a.2 v.cells=some o/\nx om (fl a.1 (some o)<|aU a.1 s) p
 | .rm p=>wo (E5 op) fun x=>wb (match x.1 with| .rem=>true|_=>false)<|wo (aH t x.2.2.1) fun a=>wo (aH t x.2.2.2.1) fun b=>wo (asInt a) fun a=>wo (asInt b) fun b=>wb (decide<|a.1=b.1)<|b.2≠0/\nx (.int a.1<|Int.tmod a.2 b.2) s p
 | .al _ enc l L p=>wo (CA op) fun x=>wo (aH t x.1) fun a=>wo (xU a) fun a=>wo (aH t x.2.1) fun b=>wo (JI b) fun b=>wo (CB E.P x.2.2) fun i=>wb (OQ i.1 a.2.1 a.2.2&&(Nat.blt a.1 s.nx&&(Nat.blt s.nx top&&(dr||Nat.beq s.mark 0))))<|a.2.1=l.length/\s.h.get a.1=some (aC enc l)/\top<=b.1/\cv E.F b.1 b.2.1 (b.2.2*i.1)=some (L.map enc).flatten/\b.2.2=L.length/\(∀x,(enc x).length=i.1/\(enc x).all AV.bR=true)/\2*(l.length+L.length)*i.2+4096*i.2<=room/\(l.length+L.length)*i.1<=top/\nx (.slice (some (s.nx,0)) (l++L).length<|.aq (l++L).length i.1) (Kc dr s ((s.h.put a.1 none).put s.nx<|some<|aC enc<|l++L) [a.1] [a.1]) p
 | .cy v s2 p=>wo (NG t op) fun x=>bc E.P E.sp E.F n (.round x.1) x.2 s= .ok v s2/\nx v s2 p
 | .KR p=>wo (E7 op) fun x=>wo (aH t x.2.1) fun a=>wo (addrOf a) fun a=>wo (aH t x.2.2) fun z=>wo (asInt z) fun z=>wo (O6 E.P x.1) fun K=>0<=z.2/\z.2<(Int.ofNat K.1)/\nx (.ptr<|some (a.1,a.2+z.2.toNat*K.2)) s p
 | .kt y v' p=>wo (uX t op) fun x=>wo (Dl n) fun _=>wo (E.tt x.1) fun q=>wo (NH x.2) fun z=>wo (O7<|(E.cs s).h.get z.1) fun u=>wb (E.ck s&&(Nat.beq q.1 u.1&&(Nat.ble E.n0 z.1&&(Nat.blt z.1 (E.cs s).nx&&Nat.blt z.1 top))))<|q.2 u.2 z.2=some (y,v')/\nx y (XA z.1 q.1 v'<|E.cs s) p
 | .nt v res p=>wo (uX t op) fun x=>wo (Dl n) fun _=>wo (E.tn x.1) fun q=>wb (E.ck s&&Nat.blt (E.cs s).nx top)<|q.2 x.2=some (v,res)/\nx (XB res (E.cs s) v) (XC q.1 (E.cs s) v) p
 | .Xz m p q=>wo (L8 op) fun x=>wo (aH t x.2.1) fun a=>wo (JJ a) fun n=>wo (aH t x.2.2) fun i=>wo (asInt i) fun i=>wo (I6 E.P x.1) fun y=>wb (ox E.P 10000 y.1 (.int .i64 i.2)&&(plainKey E.P y.1 (.int .i64 i.2)&&(FW i.1&&(PH (nB E.P y.2)&&Nat.blt n s.nx))))<|s.h.get n=some (bz m)/\(lB m i.2=true->nx (.tuple [.int .i64<|getM m i.2,.bool true]) (aU n s) p)/\(lB m i.2=false->nx (.tuple [.int .i64 0,.bool false]) (aU n s) q)
 | .KS m p=>wo (MZ op) fun x=>wo (aH t x.2.1) fun a=>wo (JJ a) fun n=>wo (aH t x.2.2.1) fun i=>wo (asInt i) fun i=>wo (aH t x.2.2.2) fun v=>wo (asInt v) fun v=>wo (I6 E.P x.1) fun y=>wb (ox E.P 10000 y.1 (.int .i64 i.2)&&(plainKey E.P y.1 (.int .i64 i.2)&&(FW i.1&&(FW v.1&&(Nat.blt n s.nx&&Nat.blt n top)))))<|s.h.get n=some (bz m)/\nx (.tuple []) (fl n (some<|bz<|fM m i.2 v.2)<|aU n s) p
 | .so p=>wo (L7 op) fun x=>wo (aH t x.2.1) fun a=>wo (xU a) fun a=>wo (ra E.P x.1) fun _=>wo (CX t x.2.2.1 0) fun lo=>wo (CX t x.2.2.2<|Int.ofNat a.2.1) fun hi=>wb (kept a.2.2)<|lo=0/\0<=hi/\hi<=Int.ofNat (iZ a.2.1 a.2.2)/\nx (.slice (some (a.1,0)) hi.toNat a.2.2) s p
 | .s3 p=>wo (LQ op) fun x=>wo (aH t x.2.1) fun a=>wo (xU a) fun a=>wo (ra E.P x.1) fun _=>wo (aH t x.2.2.1) fun hi=>wo (asInt hi) fun hi=>wo (aH t x.2.2.2) fun mx=>wo (asInt mx) fun mx=>wb (kept a.2.2)<|0<=hi.2/\hi.2<=mx.2/\mx.2<=Int.ofNat (iZ a.2.1 a.2.2)/\nx (.slice (some (a.1,0)) hi.2.toNat<|.known mx.2.toNat) s p
 | .ao L1 L2 l p=>wo (CA op) fun x=>wo (aH t x.1) fun a=>wo (xU a) fun a=>wo (aH t x.2.1) fun b=>wo (xU b) fun b=>wo (CB E.P x.2.2) fun i=>wb (Nat.blt a.1 s.nx&&(Nat.blt b.1 s.nx&&(Nat.blt s.nx top&&(dr||Nat.beq s.mark 0))))
  (a.2.2= .known a.2.1/\1<=b.2.1/\s.h.get a.1=some (.cells L1.length (Tr.fill L1 0 .nil) [])/\s.h.get b.1=some (.cells L2.length (Tr.fill L2 0 .nil) [])/\L1.length<=top/\L2.length<=top/\a.2.1*i.1<=L1.length/\b.2.1*i.1<=L2.length/\
   L1.take (a.2.1*i.1)++L2.take (b.2.1*i.1)=l/\l.all AV.bR=true/\2*(a.2.1+b.2.1)*i.2+4096*i.2<=room/\l.length<=top/\
   nx (.slice (some (s.nx,0)) (a.2.1+b.2.1)<|.aq (a.2.1+b.2.1) i.1) (Kc dr s (s.h.put s.nx<|some<|.cells l.length (Tr.fill l 0 .nil) []) [a.1,b.1] []) p)
 | .an L1 L2 l p=>wo (CA op) fun x=>wo (aH t x.1) fun a=>wo (xU a) fun a=>wo (aH t x.2.1) fun b=>wo (xU b) fun b=>wo (CB E.P x.2.2) fun i=>wb (xC i.1&&(Nat.blt a.1 s.nx&&(Nat.blt b.1 s.nx&&Nat.blt s.nx top)))
  (a.2.2= .known a.2.1/\1<=a.2.1/\1<=b.2.1/\s.h.get a.1=some (.cells L1.length (Tr.fill L1 0 .nil) [])/\s.h.get b.1=some (.cells L2.length (Tr.fill L2 0 .nil) [])/\L1.length<=top/\L2.length<=top/\a.2.1*i.1<=L1.length/\b.2.1*i.1<=L2.length/\
   L1.take (a.2.1*i.1)++L2.take (b.2.1*i.1)=l/\l.all AV.bR=true/\2*(a.2.1+b.2.1)*i.2+4096*i.2<=room/\l.length<=top/\
   nx (.slice (some (s.nx,0)) (a.2.1+b.2.1)<|.aq (a.2.1+b.2.1) i.1) (PB (.cells l.length (Tr.fill l 0 .nil) [])<|aU a.1<|aU b.1 s) p)
 | .il p=>wo (uX t op) fun x=>wo (Dl n) fun m=>match E.sp x.1 with
  |some _=>False
  |none=>wo (E.P.funcs[x.1]?) fun fn=>wo fn.body fun body=>wb (!(fn.name == "runtime.NumGoroutine"))<|wb (Nat.ble (max fn.ntmps x.2.length) top)<|ih m (.fr x.1 (max fn.ntmps x.2.length) [.code body] (dt x.2) s) p fn.results.toList nx fun _ _ _=>False
 |_=>False
def Qv(E:Env)(ih:Rec)(n:Nat)(c:KT)(p:Pl)(rs:List ResultVar)(k:Kt)(C:xT):Prop:=match c with
 | .fr f nt K t s=>match p with
  | .st j p=>wr (dV E.P (bc E.P E.sp E.F n) j ⟨f,t,nt,K,[],none⟩ s) fun x s1=>wo (O4 x) fun y=>ih n (.fr y.1 y.2.1 y.2.2.1 y.2.2.2 s1) p rs k C
  | .rg p=>wo (NF K) fun x=>ih n (.rg f nt x.2.2 x.1 (V5 x.2.1) 0 t s) p rs k C
  | .rt j p=>wr (dV E.P (bc E.P E.sp E.F n) j ⟨f,t,nt,K,[],none⟩ s) fun x s1=>wo (O5 x) fun y=>wr (finish E.P rs y.1 y.2 s1) fun v s2=>k v s2 p
  | .cut p=>C ⟨f,t,nt,K,[],none⟩ s p
  | .ls l o nx p=>wb (E.fg&&(pJ top l&&(pJ top o&&((Nat.ble s.nx nx&&Nat.ble nx top)&&o.all fun q=>I5 q.2))))<|l.map (fun q=>t.get q.1)=l.map (fun q=>some q.2)/\o.map (fun q=>s.h.get q.1)=o.map (fun q=>q.2)/\C ⟨f,aE l,nt,K,[],none⟩ (ah o nx) p
  | .rn l0 o0 l o bw nx p=>wb (E.fg&&Nat.beq s.nx bw)<|l0.map (fun q=>t.get q.1)=l0.map (fun q=>some q.2)/\o0.map (fun q=>s.h.get q.1)=o0.map (fun q=>q.2)/\hJ E.F E.lo bw l0 o0 l o nx/\C ⟨f,aE l,nt,K,[],none⟩ (ah o nx) p
  | .bk l o nx p=>wb (E.fg&&(pJ top l&&(pJ nx o&&((Nat.ble nx s.nx&&(Nat.blt s.nx top&&Nat.ble E.lo nx))&&o.all fun q=>I5 q.2))))<|l.map (fun q=>t.get q.1)=l.map (fun q=>some q.2)/\o.map (fun q=>s.h.get q.1)=o.map (fun q=>q.2)/\tI nx l o/\C ⟨f,aE l,nt,K,[],none⟩ (ah o nx) p
  |_=>False
 | .rg f nt K ops D i t s=>match p with
  | .go m p=>wb (Nat.ble (i+m) ops.size)<|wr (PF E.P (bc E.P E.sp E.F n) nt ops D i m t s) fun x s1=>ih n (.rg f nt K ops x.2 (i+m) x.1 s1) p rs k C
  | .en p=>wb (Nat.ble ops.size i)<|wb (JH ops D)<|ih n (.fr f nt K t s) p rs k C
  |p=>wo (xO ops i) fun o=>wb (JG ops o.2.2 t)<|XD E (D.isSome&&Nat.beq s.mark 0) ih n (fun v s1 p=>wo (je nt t o.2.1 v) fun t1=>ih n (.rg f nt K ops (Kb D i (s) s1) (i+1) t1<|DG D s s1) p rs k C) (gO D s) t o.1 p
def wp(E:Env)(fuel:Nat):Rec:= @Nat.rec (fun _=>Rec) (fun _ _ _ _ _ _=>False) (fun _ ih=>Qv E ih) fuel
def lT(P:Program)(YG:aK)(G:AF->AS->Prop)(f nt:Nat)(K:List Item)(ops:Array Oper)(D:Option<|List Met)(i:Nat)(t:Tr AV)(s:AS):Prop:=match D with
 |none=>xR P YG G f nt K ops i t s
 |some acc=>qy P YG G f nt K ops acc i t s
def Gof(P:Program)(YG:aK)(G:AF->AS->Prop)(c:KT):Prop:=match c with
 | .fr f nt K t s=>G ⟨f,t,nt,K,[],none⟩ s
 | .rg f nt K ops D i t s=>lT P YG G f nt K ops D i t s
end
theorem aZ{o:Option α}{k:α->Prop}(h:wo o k):∃x,o=some x/\k x:=by
 cases o with
 |none=>exact h.elim
 |some x=>exact⟨x,rfl,h⟩
theorem FA{r:R α}{k:α->AS->Prop}(h:wr r k):∃x s,r= .ok x s/\k x s:=by
 cases r with
 |bad=>exact h.elim
 |ok x s=>exact⟨x,s,rfl,h⟩
theorem gd{k:Prop}(h:wb b k):b=true/\k:=by
 cases b with
 |false=>exact h.elim
 |true=>exact⟨rfl,h⟩
theorem ac7(fi args ca:List AV):PC fi args ca=fi++args++ca:=by
 unfold PC;split
 ·simp
 ·rfl
theorem abP{g:FuncId×List AV×List AV}(h:PD v=some g):v= .func (.func g.1) g.2.1 g.2.2:=by
 unfold PD at h;split at h
 ·injection h with h;subst h;rfl
 ·cases h
theorem qS{x:IntKind×Int}(h:asInt v=some x):v= .int x.1 x.2:=by
 unfold asInt at h;split at h
 ·injection h with h;subst h;rfl
 ·cases h
theorem SV{x:List AV}(h:asAgg v=some x):v= .agg x:=by
 unfold asAgg at h;split at h
 ·injection h with h;subst h;rfl
 ·cases h
theorem Zs{x:Option (Nat×Nat)×Nat×bW}(h:asSlice v=some x):v= .slice x.1 x.2.1 x.2.2:=by
 unfold asSlice at h;split at h
 ·injection h with h;subst h;rfl
 ·cases h
theorem aaE{x:bq}{y:Nat×Nat×List Item×Tr AV}(h:O4 x=some y):x= .go ⟨y.1,y.2.2.2,y.2.1,y.2.2.1,[],none⟩:=by
 unfold O4 at h;split at h
 ·injection h with h;subst h;rfl
 ·cases h
theorem aaF{x:bq}{y:AF×Option Code}(h:O5 x=some y):x= .leave y.1 y.2:=by
 unfold O5 at h;split at h
 ·injection h with h;subst h;rfl
 ·cases h
theorem Zt{K:List Item}{y:Array Oper×Bool×List Item}(h:NF K=some y):∃id,K= .code (.region id y.1 y.2.1)::y.2.2:=by
 unfold NF at h;split at h
 ·injection h with h;subst h;exact⟨_,rfl⟩
 ·cases h
theorem EO{m:Nat}(h:Dl n=some m):n=m+1:=by
 cases n with
 |zero=>cases h
 |succ n=>injection h with h;subst h;rfl
theorem LC{op:Op}{x:BinOp×TypeId×Operand×Operand×TypeId}(h:E5 op=some x):op= .binOp x.1 x.2.1 x.2.2.1 x.2.2.2.1 x.2.2.2.2:=by
 unfold E5 at h;split at h
 ·injection h with h;subst h;rfl
 ·cases h
theorem ZU{t:Tr AV}{op:Op}{x:FuncId×List AV}(h:uX t op=some x):∃fo xs ts fi args ca,op= .call ⟨.value fo,xs,ts⟩/\aH t fo=some (.func (.func x.1) fi ca)/\jS (aH t) xs.toList=some args/\x.2=fi++args++ca:=by
 unfold uX at h;split at h
 ·cases h
 ·rename_i y hy;have eV:op= .call ⟨.value y.1,y.2.1,y.2.2⟩:=by
   unfold callParts at hy;split at hy
   ·injection hy with hy;subst hy;rfl
   ·cases hy
  split at h
  ·cases h
  ·rename_i fv hf;split at h
   ·cases h
   ·rename_i g hg;split at h
    ·cases h
    ·rename_i args ha;injection h with h;subst h
     exact⟨_,_,_,g.2.1,_,g.2.2,eV,by rw[hf,abP hg],ha,ac7 _ _ _⟩
section
variable {P:Program} {s s1:AS} {YG:aK} {t t1:Tr AV} {ops:Array Oper} {f nt i:Nat} {K:List Item} {G:AF->AS->Prop} {D:Option<|List Met}
theorem ac8{o:BinOp}{a b:Int}(h:PE o a b=some c):∃r,Py o a b=some r/\(r=true↔c):=by
 unfold PE at h;split at h<;>first|(injection h with h;subst h)|cases h
 ·exact⟨_,rfl,by rw[decide_eq_true_iff]⟩
 ·exact⟨_,rfl,by rw[decide_eq_true_iff]⟩
 ·exact⟨_,rfl,by rw[decide_eq_true_iff]⟩
 ·exact⟨_,rfl,by rw[decide_eq_true_iff]⟩
 ·exact⟨_,rfl,by simp⟩
 ·exact⟨_,rfl,by simp⟩
theorem lT.op{op:Op}{d:Option Tmp}{g:Option<|Nat×Bool}(ho:xO ops i=some (op,d,g))(hw:JG ops g t=true)(h:(du P op).val YG t (gO D s)= .ok v s1)(hp:je nt t d v=some t1)(H:lT P YG G f nt K ops (Kb D i s s1) (i+1) t1<|DG D s s1):lT P YG G f nt K ops D i t s:=by
 cases D with
 |none=>exact xR.step (Ur ho) (aeG ho hw h hp) H
 |some acc=>exact qy.step (Ur ho) (ac4 ho hw h hp) H
theorem lT.go{x:Tr AV×Option (List Met)}(hn:Nat.ble (i+n) ops.size=true)(h:PF P YG nt ops D i n t s= .ok x s1)(H:lT P YG G f nt K ops x.2 (i+n) x.1 s1):lT P YG G f nt K ops D i t s:=by
 have hle:=aL.1 hn;unfold PF at h;cases D with
 |none=>
  simp only at h;split at h
  ·rename_i t2 s2 e;injection h with h1 h2;subst h1;subst h2
   obtain⟨t3,s3,q1,q2⟩:=H;refine⟨t3,s3,?_,q2⟩;rw[show ops.size - i=n+(ops.size - (i+n)) by omega];exact Sa e q1
  ·cases h
 |some acc=>
  simp only at h;split at h
  ·rename_i y s2 e;injection h with h1 h2;subst h1;subst h2
   obtain⟨t3,ms,s3,q1,q2,q3⟩:=H;refine⟨t3,_,s3,?_,by rw[←List.append_assoc];exact q2,q3⟩;rw[show ops.size - i=n+(ops.size - (i+n)) by omega];exact Tx rfl aj e q1
  ·cases h
theorem lT.done(h:Nat.ble ops.size i=true)(ho:JH ops D=true)(H:G ⟨f,t,nt,K,[],none⟩ s):lT P YG G f nt K ops D i t s:=by
 cases D with
 |none=>exact xR.done h H
 |some acc=>exact qy.done (and_true.2 ⟨h,ho⟩) H
theorem lT.ahW(hG:Chunk P YG G){id:Nat}{d:Bool}(H:lT P YG G f nt K ops (V5 d) 0 t s):G ⟨f,t,nt,.code (.region id ops d)::K,[],none⟩ s:=by
 cases d with
 |false=>exact Chunk.zM hG (c:=.region id ops false) rfl H
 |true=>exact Chunk.ahS hG (c:=.region id ops true) rfl H
theorem ZV{op:Op}{x:Nat×List AV}(h:NG t op=some x)(hv:YG (.round x.1) x.2 s= .ok v s1):(du P op).val YG t s= .ok v s1:=by
 unfold NG at h;split at h
 ·cases h
 ·rename_i y e;split at h
  ·rename_i l e2;split at h
   ·cases h
   ·rename_i args e3;injection h with h;subst h
    unfold callParts at e;split at e
    ·rename_i fo xs ts;injection e with e;subst e
     show tj fo xs.toList YG t s=_;unfold tj;simp only at e2 e3;rw[e3,bQ,e2,bQ];show mV YG (.yield l) args s=_;exact hv
    ·cases e
  ·cases h
theorem Aj{op:Op}{x:FuncId×List AV}(h:uX t op=some x)(hv:YG (.fn x.1) x.2 s= .ok v s1):(du P op).val YG t s= .ok v s1:=by obtain⟨fo,xs,ts,fi,args,ca,rfl,h1,h2,h3⟩:=ZU h;show tj fo xs.toList YG t s=_;unfold tj;rw[h2,bQ,h1,bQ];show YG (.fn x.1) (fi++args++ca) s=_;rw[←h3];exact hv
end
theorem YN{op:Op}(h:L8 op=some x):op= .lookup x.1 x.2.1 x.2.2 true:=by
 unfold L8 at h;split at h
 ·injection h with h;subst h;rfl
 ·cases h
theorem Zb{op:Op}{x:TypeId×Operand×Operand×Operand}(h:MZ op=some x):op= .mapUpdate x.1 x.2.1 x.2.2.1 x.2.2.2:=by
 unfold MZ at h;split at h
 ·injection h with h;subst h;rfl
 ·cases h
theorem SX(h:JJ v=some n):v= .map (some n):=by
 unfold JJ at h;split at h
 ·injection h with h;subst h;rfl
 ·cases h
theorem Sd{P:Program}{y:TypeId×TypeId}(h:I6 P ty=some y):P.underlying ty=some (.map y.1 y.2):=by
 unfold I6 at h;split at h
 ·rename_i e;injection h with h;subst h;exact e
 ·cases h
theorem Ms{k:IntKind}(h:FW k=true):k= .i64:=by
 unfold FW at h;split at h
 ·rfl
 ·cases h
theorem abQ{v:Option AV}(h:PH v=true):v=some (.int .i64 0):=by
 unfold PH at h;split at h
 ·rfl
 ·cases h
theorem LD{op:Op}(h:E7 op=some x):op= .indexAddr x.1 x.2.1 x.2.2:=by
 unfold E7 at h;split at h
 ·injection h with h;subst h;rfl
 ·cases h
theorem Hu{op:Op}{x:Operand×Operand×Array TypeId}(h:CA op=some x):op= .call ⟨.builtin .append, #[x.1,x.2.1],x.2.2⟩:=by
 unfold CA at h;split at h
 ·rename_i xs ts;split at h
  ·rename_i a b e;injection h with h;subst h
   have:xs= #[a,b]:=Array.ext' e;rw[this]
  ·cases h
 ·cases h
theorem abR{x:Nat×Nat×Nat×Nat}(h:PG v=some x):v= .slice (some (x.1,0)) x.2.1 (.aq x.2.2.1 x.2.2.2):=by
 unfold PG at h;split at h
 ·injection h with h;subst h;rfl
 ·cases h
theorem ZW{m:Nat}(h:Oe v=some m):v= .slice (some (m,0)) 1 (.known 1):=by
 unfold Oe at h;split at h
 ·injection h with h;subst h;rfl
 ·cases h
theorem Hv{P:Program}{ts:Array TypeId}{x:Nat×Nat}(h:CB P ts=some x):∃ty e,ts[0]? =some ty/\P.underlying ty=some (.slice e)/\(P.info? e).map (fun i=>(i.size,i.bytes,ss i))=some (x.1,x.2,true)/\po P ts[1]? =true/\Nat.beq x.2 0=false:=by
 unfold CB at h;split at h
 ·rename_i ty h1;split at h
  ·rename_i e h2;split at h
   ·rename_i i h3;split at h
    ·rename_i hb;injection h with h;subst h
     obtain⟨b1,b2⟩:=and_true.1 hb;obtain⟨b2,b3⟩:=and_true.1 b2;refine⟨ty,e,h1,h2,by rw[h3];simp only[Option.map_some,b1],b2,by simpa using b3⟩
    ·cases h
   ·cases h
  ·cases h
 ·cases h
theorem Hp{op:Op}{x:TypeId×Operand}(h:EN op=some x):op= .load x.1 x.2:=by
 unfold EN at h;split at h
 ·injection h with h;subst h;rfl
 ·cases h
theorem YO{op:Op}(h:L6 op=some x):op= .store x.1 x.2.1 x.2.2:=by
 unfold L6 at h;split at h
 ·injection h with h;subst h;rfl
 ·cases h
theorem SY{x:Nat×Nat×Nat}(h:JI v=some x):v= .U x.1 x.2.1 x.2.2:=by
 unfold JI at h;split at h
 ·injection h with h;subst h;rfl
 ·cases h
theorem ZX{x:Nat×Nat}(h:Of v=some x):v= .pF x.1 x.2:=by
 unfold Of at h;split at h
 ·injection h with h;subst h;rfl
 ·cases h
theorem HF{x:Nat×Nat}(h:addrOf v=some x):v= .ptr (some x):=by
 unfold addrOf at h;split at h
 ·injection h with h;subst h;rfl
 ·cases h
theorem Mu{z:Int}{len:Nat}(h1:0<=z)(h2:z<Int.ofNat len):within z len=some z.toNat:=by
 obtain⟨m,rfl⟩:=Int.eq_ofNat_of_zero_le h1;show within (Int.ofNat m) len=some m;have h2:(m:Int)<(len:Int):=h2;unfold within;have:Nat.blt m len=true:=by rw[blt_eq];omega
 simp only[this]
section
variable {P:Program} {s s1:AS} {YG:aK} {t:Tr AV}
theorem agc{len K:Nat}{z:Int}(hx:aH t x.2.1=some (.slice (some (n,0)) len cap))(hz:aH t x.2.2=some (.int ik z))(hk:ra P x.1=some K)(h1:0<=z)(h2:z<Int.ofNat len):(du P<|.indexAddr x.1 x.2.1 x.2.2).val YG t s= .ok (.ptr<|some (n,z.toNat*K)) s:=by
 show p6 P x.1 x.2.1 x.2.2 YG t s=_;unfold p6;rw[hx,hz,bQ,bQ];unfold ra at hk;split at hk
 ·rename_i e he;show lift (indexAddr P x.1 (.slice (some (n,0)) len cap)<|.int ik z) s=_;unfold indexAddr intOf;simp only[he,hk,Mu h1 h2,Nat.zero_add];rfl
 ·cases hk
theorem aeS{K:Nat×Nat}{z:Int}(hx:aH t x.2.1=some (.ptr<|some (n,o)))(hz:aH t x.2.2=some (.int ik z))(hk:O6 P x.1=some K)(h1:0<=z)(h2:z<Int.ofNat K.1):(du P<|.indexAddr x.1 x.2.1 x.2.2).val YG t s= .ok (.ptr<|some (n,o+z.toNat*K.2)) s:=by
 show p6 P x.1 x.2.1 x.2.2 YG t s=_;unfold p6;rw[hx,hz,bQ,bQ];unfold O6 at hk;split at hk
 ·rename_i m e he;cases hs:eF P e with
  |none=>rw[hs] at hk;cases hk
  |some k=>
   rw[hs] at hk;injection hk with hk
   subst hk;show lift (indexAddr P x.1 (.ptr<|some (n,o))<|.int ik z) s=_;unfold indexAddr intOf;simp only[he,hs,Mu h1 h2];rfl
 ·cases hk
theorem aeT{len K:Nat}{z:Int}(hx:aH t x.2.1=some (.U n o len))(hz:aH t x.2.2=some (.int ik z))(hk:ra P x.1=some K)(h1:0<=z)(h2:z<Int.ofNat len):(du P<|.indexAddr x.1 x.2.1 x.2.2).val YG t s= .ok (.pF n<|o+z.toNat*K) s:=by
 show p6 P x.1 x.2.1 x.2.2 YG t s=_;unfold p6;rw[hx,hz,bQ,bQ];unfold ra at hk;split at hk
 ·rename_i e he;show lift (indexAddr P x.1 (.U n o len)<|.int ik z) s=_;unfold indexAddr intOf;simp only[he,hk,Mu h1 h2];rfl
 ·cases hk
theorem RB(hk:xC k=true)(hn:Nat.blt n s.nx=true)(h:cellsOf (s.h.get n) off k=some cs):iY n off k s= .ok cs (aU n s):=by
 cases k with
 |zero=>cases hk
 |succ k=>
  unfold cellsOf at h;split at h
  ·rename_i m tt z hg;split at h
   ·rename_i hb;show((bt n).bind fun o=>match o with
     | .cells m t z=>aG (Nat.ble (off+(k+1)) m) <| lift (lO t z (k+1) off)
     | .ro m t=>aG (Nat.ble (off+(k+1)) m) <| lift (lO t [] (k+1) off)
     |_=>fail) s=_
    rw[M.bK<|lN hn hg];show aG (Nat.ble (off+(k+1)) m) (lift<|lO tt z (k+1) off) (aU n s)=_;rw[hb,dq,h];rfl
   ·cases h
  ·cases h
theorem ZY(hg:qp P ty=some ag)(hw:Fy P ty ag=some k)(hk:xC k=true)(hn:Nat.blt n s.nx=true)(hv:Gk ag cs=some v)(h:cellsOf (s.h.get n) off k=some cs):loadVar P ty n off s= .ok v (aU n s):=by
 unfold loadVar;rw[hg,bQ];cases ag with
 |true=>
  have hw:eF P ty=some k:=hw;injection hv with hv;subst hv
  show(aB (eF P ty) fun k=>(iY n off k).bind fun l=>M.pure<|AV.agg l) s=_;rw[hw,bQ,M.bK<|RB hk hn h];rfl
 |false=>
  injection hw with hw;subst hw
  show((iY n off 1).bind fun l=>lift<|one l) s=_;rw[M.bK<|RB hk hn h];show lift (one cs) (aU n s)=_;rw[show one cs=some v from hv];rfl
theorem O8{x:TypeId×Operand}(ha:aH t x.2=some (.ptr<|some a))(hg:qp P x.1=some ag)(hw:Fy P x.1 ag=some k)(hk:xC k=true)(hn:Nat.blt a.1 s.nx=true)(hv:Gk ag cs=some v)(h:cellsOf (s.h.get a.1) a.2 k=some cs):(du P<|.load x.1 x.2).val YG t s= .ok v (aU a.1 s):=by show ti P x.1 x.2 YG t s=_;unfold ti;rw[ha,bQ];show loadVar P x.1 a.1 a.2 s=_;exact ZY hg hw hk hn hv h
theorem aeU{o:ae}(ha:aH t x.2.1=some (.ptr<|some a))(hv:aH t x.2.2=some v)(hk:eF P x.1=some k)(hl:Nat.beq v.cells.length k=true)(hp:xC k=true)(hn:Nat.blt a.1 s.nx=true)(ht:Nat.blt a.1 top=true)(h:xA (s.h.get a.1) a.2 v.cells=some o):(du P<|.store x.1 x.2.1 x.2.2).val YG t s= .ok om (fl a.1 (some o)<|aU a.1 s):=by
 show xe P x.1 x.2.1 x.2.2 YG t s=_;unfold xe;rw[ha,bQ];show aB (aH t x.2.2) (fun v=>(storeVar P x.1 a.1 a.2 v).bind fun _=>M.pure om) s=_;rw[hv,bQ];have hw:storeVar P x.1 a.1 a.2 v s= .ok () (fl a.1 (some o)<|aU a.1 s):=by
  unfold storeVar;rw[hk,bQ,hl,dq];unfold xA at h;split at h
  ·rename_i m tt z hg;split at h
   ·rename_i hb;injection h with h;subst h
    cases hc:v.cells with
    |nil=>rw[hc] at hl;have:=Nat.eq_of_beq_eq_true hl;subst this;cases hp
    |cons y r=>
     rw[hc] at hb;show((bt a.1).bind fun o=>match o with
      | .cells m t z=>aG (and (Nat.ble (a.2+(r.length+1)) m)<|and (Nat.ble m top)<|(y::r).all AV.bR) <| bJ a.1 (some<|.cells m (Tr.fill (y::r) a.2 t) z)
      |_=>fail) s=_
     rw[M.bK<|lN hn hg];show aG (and (Nat.ble (a.2+(r.length+1)) m)<|and (Nat.ble m top)<|(y::r).all AV.bR) (bJ a.1<|some<|.cells m (Tr.fill (y::r) a.2 tt) z) (aU a.1 s)=_;rw[show(and (Nat.ble (a.2+(r.length+1)) m)<|and (Nat.ble m top)<|(y::r).all AV.bR)=true from hb,dq];obtain⟨e1,e2,_⟩:=fL a.1 s;exact wT (p:=.cells m tt z) (by rw[e2];exact hn) (by rw[e1];exact hg) rfl ht
   ·cases h
  ·cases h
 rw[M.bK hw];rfl
theorem aeV{x:TypeId×Operand}(ha:aH t x.2=some (.pF a.1 a.2))(hg:qp P x.1=some ag){z:Nat}(hz:eF P x.1=some z)(hw:Fy P x.1 ag=some k)(hv:Gk ag cs=some v)(ht:top<=a.1)(h:cv F a.1 a.2 k=some cs):(du P<|.load x.1 x.2).val (bc P sp F n) t s= .ok v s:=by
 show ti P x.1 x.2 (bc P sp F n) t s=_;unfold ti;rw[ha,bQ];show(match Nat.ble top a.1 with
  |true=>uS P x.1 (bc P sp F n) a.1 a.2
  |false=>wQ P x.1 a.1 a.2) s=_
 rw[aL.2 ht];have hr:∀k,cv F a.1 a.2 k=some cs->bc P sp F n (.row a.1 a.2 k) [] s= .ok (.agg cs) s:=by
  intro k h;have:qw F a.1 a.2 k s= .ok (.agg cs) s:=by
   unfold cv at h;unfold qw;cases e:F a.1 with
   |none=>rw[e] at h;cases h
   |some l=>
    rw[e] at h;simp only at h;split at h
    ·rename_i hb;injection h with h;subst h
     rw[bQ,hb,dq];rfl
    ·cases h
  cases n<;>exact this
 show uS P x.1 (bc P sp F n) a.1 a.2 s=_;unfold uS;rw[hg,bQ];rw[hz,bQ];cases ag with
 |true=>
  have hw:eF P x.1=some k:=hw;rw[hz] at hw;injection hw with hw;subst hw
  injection hv with hv;subst hv
  show((bc P sp F n (.row a.1 a.2 z) []).bind fun v=>_) s=_;rw[M.bK<|hr z h];rfl
 |false=>
  injection hw with hw;subst hw
  show((bc P sp F n (.row a.1 a.2 1) []).bind fun v=>_) s=_;rw[M.bK<|hr 1 h];show lift (one cs) s=_;rw[show one cs=some v from hv];rfl
theorem agd{x:BinOp×TypeId×Operand×Operand×TypeId}{k:IntKind}{a b:Int}(ho:x.1= .rem)(hx:aH t x.2.2.1=some (.int k a))(hy:aH t x.2.2.2.1=some (.int k b))(hb:b≠0):(du P<|.binOp x.1 x.2.1 x.2.2.1 x.2.2.2.1 x.2.2.2.2).val YG t s= .ok (.int k<|Int.tmod a b) s:=by rw[ho];exact aeF hx hy hb rfl
theorem M3:∀{l:List<|Nat×AV},l.map (fun q=>t.get q.1)=l.map (fun q=>some q.2)->xz t l
 |[],_=>trivial
 |p::l,h=>by simp only[List.map_cons,List.cons.injEq] at h;exact⟨h.1,M3 h.2⟩
theorem NI{h:Tr ae}:∀{o:List<|Nat×Option ae},o.map (fun q=>h.get q.1)=o.map (fun q=>q.2)->(o.all fun q=>I5 q.2)=true->xP h o
 |[],_,_=>trivial
 |p::l,e,k=>by simp only[List.map_cons,List.cons.injEq] at e;rw[List.all_cons] at k;obtain⟨k1,k2⟩:=and_true.1 k;exact⟨⟨e.1,fun o ho=>by rw[ho] at k1;exact k1⟩,NI e.2 k2⟩
end
def zQ(m m':Met):Prop:=m.i=m'.i/\(∀n∈m.rd,n∈m'.rd)/\(∀n∈m.wr,n∈m'.wr)/\m.lo=m'.lo/\m.hi=m'.hi
def nf:List Met->List Met->Prop
 |[],[]=>True
 |x::l,y::m=>zQ x y/\nf l m
 |_,_=>False
theorem zQ.refl(m:Met):zQ m m:=⟨rfl,fun _ h=>h,fun _ h=>h,rfl,rfl⟩
theorem nf.refl:∀l:List Met,nf l l
 |[]=>trivial
 |x::l=>⟨zQ.refl x,nf.refl l⟩
theorem nf.app:∀{a a' b b':List Met},nf a a'->nf b b'->nf (a++b) (a'++b')
 |[],[],_,_,_,h=>h
 |_::_,_::_,_,_,h,k=>⟨h.1,nf.app h.2 k⟩
 |[],_::_,_,_,h,_=>h.elim
 |_::_,[],_,_,h,_=>h.elim
theorem Mv{lo hi:Nat}:∀{l:List Nat},yZ lo hi l=true↔∃n∈l,lo<=n/\n<hi
 |[]=>by simp[yZ]
 |x::l=>by
  have ih:=Mv (lo:=lo) (hi:=hi) (l:=l);unfold yZ;cases q:(Nat.ble lo x&&Nat.blt x hi) with
  |true=>obtain⟨h1,h2⟩:=and_true.1 q;exact⟨fun _=>⟨x,List.mem_cons_self,aL.1 h1,(blt_eq _ _).mp h2⟩,fun _=>rfl⟩
  |false=>
   refine ih.trans ⟨fun⟨n,a,b⟩=>⟨n,List.mem_cons_of_mem _ a,b⟩,fun⟨n,a,b⟩=>?_⟩;rcases List.mem_cons.1 a with rfl|a
   ·exfalso;rw[show(Nat.ble lo n&&Nat.blt n hi)=true from and_true.2 ⟨aL.2 b.1,(blt_eq _ _).mpr b.2⟩] at q;cases q
   ·exact⟨n,a,b⟩
theorem Mw:∀{a b:List Nat},meets a b=true↔∃n∈a,n∈b
 |[],b=>by simp[meets]
 |x::a,b=>by
  have ih:=Mw (a:=a) (b:=b);unfold meets;cases q:Bl x b with
  |true=>exact⟨fun _=>⟨x,List.mem_cons_self,H7.1 q⟩,fun _=>rfl⟩
  |false=>
   refine ih.trans ⟨fun⟨n,h,k⟩=>⟨n,List.mem_cons_of_mem _ h,k⟩,fun⟨n,h,k⟩=>?_⟩;rcases List.mem_cons.1 h with rfl|h
   ·rw[H7.2 k] at q;cases q
   ·exact⟨n,h,k⟩
theorem SZ{m:Nat}{a b:List Nat}(h:∀k∈a,k∈b)(n:Nat)(hn:n∈below m a):n∈below m b:=by obtain⟨h1,h2⟩:=wE.1 hn;exact wE.2 ⟨h n h1,h2⟩
theorem HG(l:List Nat):below 0 l=[]:=rfl
theorem ZZ{x y y':Met}(hx:zQ x x')(hy:zQ y y')(h:sQ x' y'=true):sQ x y=true:=by
 unfold sQ at h ⊢;obtain⟨h1,h2⟩:=and_true.1 h;refine and_true.2 ⟨?_,?_⟩
 ·cases q:meets x.wr y.rd with
  |false=>rfl
  |true=>obtain⟨n,a,b⟩:=Mw.1 q;rw[Mw.2 ⟨n,hx.2.2.1 n a,hy.2.1 n b⟩] at h1;cases h1
 ·cases q:yZ x.lo x.hi y.rd with
  |false=>rfl
  |true=>obtain⟨n,a,b⟩:=Mv.1 q;rw[hx.2.2.2.1,hx.2.2.2.2] at b;rw[Mv.2 ⟨n,hy.2.1 n a,b⟩] at h2;cases h2
theorem Z0{x:Met}(hx:zQ x x')(h:sR x'=true):sR x=true:=by
 unfold sR at h ⊢;cases e:x'.wr with
 |cons a l=>rw[e] at h;cases h
 |nil=>
  rw[e] at h;cases e2:x.wr with
  |nil=>rw[hx.2.2.2.1,hx.2.2.2.2];exact h
  |cons a l=>have:=hx.2.2.1 a (by rw[e2];exact List.mem_cons_self);rw[e] at this;cases this
theorem Rk{b:Array Nat}{x x':Met}(hx:zQ x x'):∀{l l':List Met},nf l l'->sj b x' l'=true->sj b x l=true
 |[],[],_,_=>rfl
 |[],_::_,h,_=>h.elim
 |_::_,[],h,_=>h.elim
 |y::l,y'::l',hl,h=>by
  unfold sj at h ⊢;cases q:(Nat.beq x'.i y'.i||(sQ x' y'|| !loose b x'.i y'.i)) with
  |false=>rw[q] at h;cases h
  |true=>
   rw[q] at h;have:(Nat.beq x.i y.i||(sQ x y|| !loose b x.i y.i))=true:=by
    rw[hx.1,hl.1.1];cases q1:Nat.beq x'.i y'.i with
    |true=>rfl
    |false=>
     rw[q1] at q;cases q2:sQ x' y' with
     |true=>rw[ZZ hx hl.1 q2];rfl
     |false=>
      rw[q2] at q;cases sQ x y
      ·exact q
      ·rfl
   rw[this];exact Rk hx hl.2 h
theorem S0{b:Array Nat}{all PI:List Met}(ha:nf all PI):∀{l l':List Met},nf l l'->qf b PI l'=true->qf b all l=true
 |[],[],_,_=>rfl
 |[],_::_,h,_=>h.elim
 |_::_,[],h,_=>h.elim
 |x::l,x'::l',hl,h=>by
  unfold qf at h ⊢;cases q:(sR x'||sj b x' PI) with
  |false=>rw[q] at h;cases h
  |true=>
   rw[q] at h;have:(sR x||sj b x all)=true:=by
    cases q1:sR x' with
    |true=>rw[Z0 hl.1 q1];rfl
    |false=>rw[q1] at q;rw[Rk hl.1 ha q];cases sR x<;>rfl
   rw[this];exact S0 ha hl.2 h
theorem qy.cover{P:Program}{YG:aK}{G:AF->AS->Prop}{f nt:Nat}{K:List Item}{ops:Array Oper}{acc PJ:List Met}{i:Nat}{t:Tr AV}{s:AS}(h:nf acc PJ)(H:qy P YG G f nt K ops PJ i t s):qy P YG G f nt K ops acc i t s:=by obtain⟨t1,ms,s1,q1,q2,q3⟩:=H;exact⟨t1,ms,s1,q1,S0 (h.app<|nf.refl ms) (h.app<|nf.refl ms) q2,q3⟩
theorem aaG{B:Prop}(hy:b=true->A)(ko:b=false->B)(ha:b=true->A->X)(hb:b=false->B->X):X:=by
 cases b with
 |true=>exact ha rfl<|hy rfl
 |false=>exact hb rfl<|ko rfl
theorem abS{o:Option AV}{d:Decidable c}{B:Prop}(h:o=some (.bool<|@decide c d))(hy:c->A)(ko:¬c->B)(ha:o=some (.bool true)->A->X)(hb:o=some (.bool false)->B->X):X:=by
 by_cases q:c
 ·rw[decide_eq_true q] at h;exact ha h<|hy q
 ·rw[decide_eq_false q] at h;exact hb h<|ko q
theorem Av{x:Nat×Nat×bW}(h:xU v=some x):v= .slice (some (x.1,0)) x.2.1 x.2.2:=by
 unfold xU at h;split at h
 ·injection h with h;subst h;rfl
 ·cases h
theorem YP{op:Op}{x:TypeId×Operand×Option Operand×Option Operand}(h:L7 op=some x):op= .slice x.1 x.2.1 x.2.2.1 x.2.2.2 none:=by
 unfold L7 at h;split at h
 ·injection h with h;subst h;rfl
 ·cases h
theorem Mx{i:Int}(h0:0<=i)(h1:i<(n:Int)):within i n=some i.toNat:=by
 obtain⟨k,rfl⟩:=Int.eq_ofNat_of_zero_le h0;have hk:k<n:=by omega
 show(match (Int.ofNat k) with| .ofNat k=>(match Nat.blt k n with|true=>some k|false=>none)| .negSucc _=>none)=some k;have:Nat.blt k n=true:=by rw[blt_eq];exact hk
 simp only[this]
theorem RC{t:Tr AV}{o:Option Operand}{d v:Int}{tF:Nat}(h:CX t o d=some v)(h0:0<=v)(h1:v<=(tF:Int)):∃y,opt (aH t) o=some y/\∀dn:Nat,(Int.ofNat dn=d)->bound y tF dn=some v.toNat:=by
 cases o with
 |none=>
  injection h with h;subst h
  exact⟨none,rfl,fun dn e=>by subst e;rfl⟩
 |some x=>
  unfold CX at h;simp only at h;cases e:aH t x with
  |none=>rw[e] at h;cases h
  |some z=>
   rw[e] at h;cases z<;>simp only at h<;>first|(cases h;done)|skip
   rename_i k n;injection h with h;subst h
   refine⟨some<|.int k n,?_,fun dn _=>?_⟩
   ·show(match aH t x with|none=>none|some v=>some<|some v)=_;rw[e]
   ·show within n (tF+1)=_;exact Mx h0 aj
theorem YI{op:Op}{x:TypeId×Operand×Operand×Operand}(h:LQ op=some x):op= .slice x.1 x.2.1 none (some x.2.2.1) (some x.2.2.2):=by
 unfold LQ at h;split at h
 ·injection h with h;subst h;rfl
 ·cases h
theorem age{P:Program}{YG:aK}{t:Tr AV}{s:AS}{x:TypeId×Operand×Option Operand×Option Operand}{len K:Nat}{hi:Int}(hx:aH t x.2.1=some (.slice (some (n,0)) len cap))(hk:ra P x.1=some K)(h1:CX t x.2.2.1 0=some 0)(h2:CX t x.2.2.2 (Int.ofNat len)=some hi)(hc:kept cap=true)(a1:0<=hi)(a2:hi<=Int.ofNat (iZ len cap)):
 (du P<|.slice x.1 x.2.1 x.2.2.1 x.2.2.2 none).val YG t s= .ok (.slice (some (n,0)) hi.toNat cap) s:=by
 obtain⟨y1,e1,f1⟩:=RC (tF:=hi.toNat) h1 aj aj;obtain⟨y2,e2,f2⟩:=RC (tF:=iZ len cap) h2 a1 a2;show sO P x.1 x.2.1 x.2.2.1 x.2.2.2 none YG t s=_;unfold sO;rw[hx,bQ,e1,bQ,e2,bQ];show lift (wP P x.1 (.slice (some (n,0)) len cap) y1 y2 none) s=_;have:wP P x.1 (.slice (some (n,0)) len cap) y1 y2 none=some (.slice (some (n,0)) hi.toNat cap):=by
  unfold ra at hk;split at hk<;>first|(cases hk;done)|skip
  rename_i e hu;unfold wP;rw[hu];have f1':=f1 0 rfl;simp only[hk,f2 len rfl];rw[f1'];cases cap with
  |known c=>
   show(match Nat.beq c 0 with
    |true=>some (AV.slice (some (n,0)) (hi.toNat - 0)<|.known<|c - 0)
    |false=>some<|AV.slice (some (n,0+0*K)) (hi.toNat - 0)<|.known<|c - 0)=_
   rw[Nat.zero_mul];cases Nat.beq c 0<;>rfl
  |aq b e=>rfl
  |lost=>cases hc
 rw[this];rfl
theorem agf{P:Program}{YG:aK}{t:Tr AV}{s:AS}{x:TypeId×Operand×Operand×Operand}{len K:Nat}{hi mx:IntKind×Int}(hx:aH t x.2.1=some (.slice (some (n,0)) len cap))(hk:ra P x.1=some K)(h1:aH t x.2.2.1=some (.int hi.1 hi.2))(h2:aH t x.2.2.2=some (.int mx.1 mx.2))(hc:kept cap=true)(a1:0<=hi.2)(a2:hi.2<=mx.2)(a3:mx.2<=Int.ofNat (iZ len cap)):
 (du P<|.slice x.1 x.2.1 none (some x.2.2.1)<|some x.2.2.2).val YG t s= .ok (.slice (some (n,0)) hi.2.toNat<|.known mx.2.toNat) s:=by
 show sO P x.1 x.2.1 none (some x.2.2.1) (some x.2.2.2) YG t s=_;unfold sO;have o1:opt (aH t) (some x.2.2.1)=some (some<|.int hi.1 hi.2):=by show(match aH t x.2.2.1 with|none=>none|some v=>some<|some v)=_;rw[h1]
 have o2:opt (aH t) (some x.2.2.2)=some (some<|.int mx.1 mx.2):=by show(match aH t x.2.2.2 with|none=>none|some v=>some<|some v)=_;rw[h2]
 rw[hx,bQ,show opt (aH t) none=some none from rfl,bQ,o1,bQ,o2,bQ];show lift (wP P x.1 (.slice (some (n,0)) len cap) none (some<|.int hi.1 hi.2)<|some<|.int mx.1 mx.2) s=_;have b1:bound (some<|.int mx.1 mx.2) (iZ len cap) 0=some mx.2.toNat:=Mx aj (by have:(Int.ofNat<|iZ len cap)=((iZ len cap:Nat):Int):=rfl;omega);have b2:bound (some<|.int hi.1 hi.2) mx.2.toNat 0=some hi.2.toNat:=Mx a1 aj;have:wP P x.1 (.slice (some (n,0)) len cap) none (some<|.int hi.1 hi.2) (some<|.int mx.1 mx.2)=some (.slice (some (n,0)) hi.2.toNat<|.known mx.2.toNat):=by
  unfold ra at hk;split at hk<;>first|(cases hk;done)|skip
  rename_i e hu;unfold wP;rw[hu];simp only[hk];have h3:slice3 K (some (n,0)) (iZ len cap) none (some<|.int hi.1 hi.2) (.int mx.1 mx.2)=some (.slice (some (n,0)) hi.2.toNat<|.known mx.2.toNat):=by
   unfold slice3;rw[b1];simp only;rw[b2];show(match Nat.beq mx.2.toNat 0 with
    |true=>some (AV.slice (some (n,0)) (hi.2.toNat - 0)<|.known<|mx.2.toNat - 0)
    |false=>some<|AV.slice (some (n,0+0*K)) (hi.2.toNat - 0)<|.known<|mx.2.toNat - 0)=_
   rw[Nat.zero_mul];cases Nat.beq mx.2.toNat 0<;>rfl
  cases cap with
  |known c=>exact h3
  |aq b e=>exact h3
  |lost=>cases hc
 rw[this];rfl
theorem abT{P:Program}{m:Nat}{s:AS}(h:cv F n o k=some cs):bc P sp F m (.row n o k) [] s= .ok (.agg cs) s:=by
 have:qw F n o k s= .ok (.agg cs) s:=by
  unfold cv at h;unfold qw;split at h
  ·rename_i l e;split at h
   ·rename_i q;injection h with h;subst h
    rw[e,bQ,q,dq];rfl
   ·cases h
  ·cases h
 cases m<;>exact this
theorem Zu{l:List AV}{z:Nat×List AV}(h:NH l=some z):l= .ptr (some (z.1,0))::z.2:=by
 unfold NH at h;split at h
 ·injection h with h;subst h;rfl
 ·cases h
theorem aaH{o:Option ae}{u:Nat×AV}(h:O7 o=some u):o=some (.tok u.1 u.2):=by
 unfold O7 at h;split at h
 ·injection h with h;subst h;rfl
 ·cases h
theorem CC{E:Env}(hE:E.Ok):∀(fuel n:Nat) (c:KT) (p:Pl) (rs:List ResultVar) (k:Kt) (C:xT) (G:AF->AS->Prop),Chunk E.P (bc E.P E.sp E.F n) G->
 (∀fr s j aO jm s1 x s2 p,dV E.P (bc E.P E.sp E.F n) j fr s= .ok (.leave aO jm) s1->finish E.P rs aO jm s1= .ok x s2->k x s2 p->G fr s)->(∀fr s p,C fr s p->G fr s)->(∀f nt K t s l o nx p,E.fg=true->pJ top l=true->pJ top o=true->(Nat.ble s.nx nx&&Nat.ble nx top)=true->xz t l->xP s.h o->C ⟨f,aE l,nt,K,[],none⟩ (ah o nx) p->G ⟨f,t,nt,K,[],none⟩ s)->(∀f nt K t s l0 o0 l o nx p,E.fg=true->l0.map (fun q=>t.get q.1)=l0.map (fun q=>some q.2)->o0.map (fun q=>s.h.get q.1)=o0.map (fun q=>q.2)->hJ E.F E.lo s.nx l0 o0 l o nx->C ⟨f,aE l,nt,K,[],none⟩ (ah o nx) p->G ⟨f,t,nt,K,[],none⟩ s)->(∀f nt K t s l o nx p,E.fg=true->pJ top l=true->pJ nx o=true->(Nat.ble nx s.nx&&(Nat.blt s.nx top&&Nat.ble E.lo nx))=true->xz t l->xP s.h o->tI nx l o->C ⟨f,aE l,nt,K,[],none⟩ (ah o nx) p->G ⟨f,t,nt,K,[],none⟩ s)->wp E fuel n c p rs k C->Gof E.P (bc E.P E.sp E.F n) G c
 |0,n,c,p,rs,k,C,G,hG,hk,hC,hL,hR,hB,h=>h.elim
 |fuel+1,n,c,p,rs,k,C,G,hG,hk,hC,hL,hR,hB,h=>by
  have ih:=CC hE fuel;have h:Qv E (wp E fuel) n c p rs k C:=h;unfold Qv at h;cases c with
  |fr f nt K t s=>
   simp only at h;split at h
   ·obtain⟨x,s1,h1,h⟩:=FA h;obtain⟨y,h2,h⟩:=aZ h;rw[aaE h2] at h1;exact hG _ _ _ _ _ h1<|ih n _ _ rs k C G hG hk hC hL hR hB h
   ·obtain⟨x,h1,h⟩:=aZ h;obtain⟨id,rfl⟩:=Zt h1;exact lT.ahW hG<|ih n _ _ rs k C G hG hk hC hL hR hB h
   ·obtain⟨x,s1,h1,h⟩:=FA h;obtain⟨y,h2,h⟩:=aZ h;obtain⟨v,s2,h3,h⟩:=FA h;rw[aaF h2] at h1;exact hk _ _ _ _ _ _ _ _ _ h1 h3 h
   ·exact hC _ _ _ h
   ·obtain⟨h1,h2,h3,h⟩:=gd h;obtain⟨q0,h1⟩:=and_true.1 h1;obtain⟨q1,h1⟩:=and_true.1 h1;obtain⟨q2,h1⟩:=and_true.1 h1;obtain⟨q3,q4⟩:=and_true.1 h1;exact hL _ _ _ _ _ _ _ _ _ q0 q1 q2 q3 (M3 h2) (NI h3 q4) h
   ·obtain⟨h1,h2,h3,h4,h⟩:=gd h;obtain⟨q0,q1⟩:=and_true.1 h1;have q1:=Nat.eq_of_beq_eq_true q1;rw[←q1] at h4;exact hR _ _ _ _ _ _ _ _ _ _ _ q0 h2 h3 h4 h
   ·obtain⟨h1,h2,h3,h4,h⟩:=gd h;obtain⟨q0,h1⟩:=and_true.1 h1;obtain⟨q1,h1⟩:=and_true.1 h1;obtain⟨q2,h1⟩:=and_true.1 h1;obtain⟨q3,q4⟩:=and_true.1 h1;exact hB _ _ _ _ _ _ _ _ _ q0 q1 q2 q3 (M3 h2) (NI h3 q4) h4 h
   ·exact h.elim
  |rg f nt K ops D i t s=>
   simp only at h;split at h
   ·obtain⟨h1,h⟩:=gd h;obtain⟨x,s1,h2,h⟩:=FA h;exact lT.go h1 h2<|ih n _ _ rs k C G hG hk hC hL hR hB h
   ·obtain⟨h1,h⟩:=gd h;obtain⟨h2,h⟩:=gd h;exact lT.done h1 h2<|ih n _ _ rs k C G hG hk hC hL hR hB h
   ·obtain⟨o,ho,h⟩:=aZ h;obtain⟨hw,h⟩:=gd h;obtain⟨op,d,g⟩:=o;simp only at hw h;have hn:∀v s1 p,(du E.P op).val (bc E.P E.sp E.F n) t (gO D s)= .ok v s1->(wo (je nt t d v) fun t1=>wp E fuel n (.rg f nt K ops (Kb D i s s1) (i+1) t1<|DG D s s1) p rs k C)->lT E.P (bc E.P E.sp E.F n) G f nt K ops D i t s:=by intro v s1 p hv h;obtain⟨t1,hp,h⟩:=aZ h;exact lT.op ho hw hv hp (ih n _ _ rs k C G hG hk hC hL hR hB h)
    generalize cr:(fun(v:AV) (s1:AS) (p:Pl)=>wo (je nt t d v) fun t1=>wp E fuel n (.rg f nt K ops (Kb D i s s1) (i+1) t1<|DG D s s1) p rs k C)=nx at h;have hn:∀v s1 p,(du E.P op).val (bc E.P E.sp E.F n) t (gO D s)= .ok v s1->nx v s1 p->lT E.P (bc E.P E.sp E.F n) G f nt K ops D i t s:=by intro v s1 p hv h;rw[←cr] at h;exact hn v s1 p hv h
    have lA:∀v h2 R W p,((D.isSome&&Nat.beq s.mark 0)||Nat.beq (gO D s).mark 0)=true->(∃rd wr,(∀k∈rd,k∈R\/k∈(gO D s).rd)/\(∀k∈wr,k∈W\/k∈(gO D s).wr)/\((gO D s).mark=0->rd=(gO D s).rd/\wr=(gO D s).wr)/\
     (du E.P op).val (bc E.P E.sp E.F n) t (gO D s)= .ok v ⟨h2,(gO D s).nx+1,(gO D s).mark,rd,wr⟩)->nx v (Kc (D.isSome&&Nat.beq s.mark 0) (gO D s) h2 R W) p->lT E.P (bc E.P E.sp E.F n) G f nt K ops D i t s:=by
     rintro v h2 R W p cP ⟨rd,wr,a1,a2,a3,hv⟩ h;cases Qw:(D.isSome&&Nat.beq s.mark 0) with
     |false=>rw[Qw] at cP h;have zH:=Nat.eq_of_beq_eq_true (show Nat.beq (gO D s).mark 0=true from cP);obtain⟨rfl,rfl⟩:=a3 zH;exact hn _ _ _ hv h
     |true=>
      rw[Qw] at h;obtain⟨Qx,hd2⟩:=and_true.1 Qw;cases D with
      |none=>cases Qx
      |some acc=>
       have hm:s.mark=0:=Nat.eq_of_beq_eq_true hd2;have a1:∀k∈rd,k∈R:=fun k hk=>(a1 k hk).resolve_right (by show ¬k∈([]:List Nat);simp);have a2:∀k∈wr,k∈W:=fun k hk=>(a2 k hk).resolve_right (by show ¬k∈([]:List Nat);simp);have h:nx v ⟨h2,(gO (some acc) s).nx+1,(gO (some acc) s).mark,R,W⟩ p:=h;rw[←cr] at h;obtain⟨t1,hp,h⟩:=aZ h;refine lT.op ho hw hv hp ?_;have H:=ih n _ _ rs k C G hG hk hC hL hR hB h;have e:DG (some acc) s ⟨h2,(gO (some acc) s).nx+1,(gO (some acc) s).mark,rd,wr⟩=DG (some acc) s ⟨h2,(gO (some acc) s).nx+1,(gO (some acc) s).mark,R,W⟩:=by show Dk s _=Dk s _;unfold Dk;rw[hm,HG,HG,HG,HG]
       rw[e];exact qy.cover (PJ:=acc++[Ka i s ⟨h2,(gO (some acc) s).nx+1,(gO (some acc) s).mark,R,W⟩]) (nf.app (nf.refl acc) ⟨⟨rfl,fun n h=>SZ a1 n h,fun n h=>SZ a2 n h,rfl,rfl⟩,trivial⟩) H
    show lT E.P (bc E.P E.sp E.F n) G f nt K ops D i t s;unfold XD at h;split at h
    ·obtain⟨x,h1,h⟩:=aZ h;obtain⟨a,h2,h⟩:=aZ h;obtain⟨b,h3,h⟩:=aZ h;obtain⟨a1,h4,h⟩:=aZ h;obtain⟨b1,h5,h⟩:=aZ h;obtain⟨h6,h⟩:=gd h;obtain⟨c,h7,hy,ko⟩:=aZ h;have h6:=of_decide_eq_true h6;have e:=LC h1;rw[qS h4] at h2;rw[qS h5, ←h6] at h3;obtain⟨r,hr,XE⟩:=ac8 h7;have hv:(du E.P op).val (bc E.P E.sp E.F n) t (gO D s)= .ok (.bool r) (gO D s):=by rw[e];exact aeH h2 h3 hr
     cases r with
     |true=>exact hn _ _ _ hv<|hy<|XE.1 rfl
     |false=>exact hn _ _ _ hv (ko fun q=>by have:=XE.2 q;cases this)
    ·obtain⟨v',s1,h1,rfl,h⟩:=FA h;exact hn _ _ _ h1 h
    ·obtain⟨x,h1,h⟩:=aZ h;obtain⟨m,hm,h⟩:=aZ h;obtain⟨val,h2,h⟩:=aZ h;obtain⟨h3,h4,h⟩:=gd h;have e:=EO hm;exact hn _ _ _ (by rw[e];exact Aj h1<|hE.uh _ _ _ _ _ _ h2 h4 h3) h
    ·obtain⟨x,h1,h⟩:=aZ h;obtain⟨m,hm,h⟩:=aZ h;obtain⟨val,h2,h⟩:=aZ h;obtain⟨h3,h4,hy,ko⟩:=gd h;have e:=EO hm;have hv:=fun b (h4:val x.2=some (.bool b))=>(show(du E.P op).val (bc E.P E.sp E.F n) t (gO D s)= .ok (.bool b) (E.cs<|gO D s) by rw[e];exact Aj (P:=E.P) h1<|hE.uh _ _ _ _ _ m h2 h4 h3);exact abS h4 hy ko (fun q h=>hn _ _ _ (hv _ q) h) fun q h=>hn _ _ _ (hv _ q) h
    ·obtain⟨x,h1,h⟩:=aZ h;obtain⟨a,h2,h⟩:=aZ h;obtain⟨b,h3,h⟩:=aZ h;obtain⟨xs,h4,h⟩:=aZ h;obtain⟨ys,h5,h⟩:=aZ h;obtain⟨h6,h⟩:=gd h;obtain⟨h7,h⟩:=gd h;obtain⟨h8,h⟩:=gd h;obtain⟨l,h9,h⟩:=aZ h;have e:=LC h1;rw[SV h4] at h2;rw[SV h5] at h3;have h8:E.P.stoodInHeld x.2.1=false:=by simpa using h8
     split at h
     ·rename_i eo;rw[eo] at h6 e;obtain⟨hy,ko⟩:=h;have hv:(du E.P op).val (bc E.P E.sp E.F n) t (gO D s)= .ok (.bool<|allEq l) (gO D s):=by rw[e];exact ac3 h2 h3 h6 h7 h8 h9 rfl
      cases q:allEq l with
      |true=>rw[q] at hv;exact hn _ _ _ hv<|hy q
      |false=>rw[q] at hv;exact hn _ _ _ hv<|ko q
     ·rename_i eo;rw[eo] at h6 e;obtain⟨hy,ko⟩:=h;have hv:(du E.P op).val (bc E.P E.sp E.F n) t (gO D s)= .ok (.bool<|!allEq l) (gO D s):=by rw[e];exact ac2 h2 h3 h6 h7 h8 h9 rfl
      cases q:allEq l with
      |true=>rw[q] at hv;exact hn _ _ _ hv<|hy q
      |false=>rw[q] at hv;exact hn _ _ _ hv<|ko q
     ·exact h.elim
    ·obtain⟨x,h1,h2,h⟩:=aZ h;exact hn _ _ _ (Aj h1 h2) h
    ·obtain⟨x,h1,h2,h3,h⟩:=aZ h;exact hn _ _ _ (Aj h1<|h2 _ h3) h
    ·obtain⟨x,h1,h⟩:=aZ h;obtain⟨a,h2,h⟩:=aZ h;obtain⟨a',h3,h⟩:=aZ h;obtain⟨b,h4,h⟩:=aZ h;obtain⟨m,h5,h⟩:=aZ h;obtain⟨i1,h6,h⟩:=aZ h;obtain⟨hb,k1,k2,k3,k4,k5,k6,k7,h⟩:=gd h;obtain⟨b1,hb⟩:=and_true.1 hb;obtain⟨b0,hb⟩:=and_true.1 hb;obtain⟨b2,hb⟩:=and_true.1 hb;obtain⟨b3,hb⟩:=and_true.1 hb;obtain⟨b4,b5⟩:=and_true.1 hb;have b1:=Nat.eq_of_beq_eq_true b1;obtain⟨ty,e,e1,e2,e3,e4,e5⟩:=Hv h6;cases iv:E.P.info? e with
     |none=>rw[iv] at e3;cases e3
     |some i0=>rw[iv] at e3;simp only[Option.map_some,Option.some.injEq,Prod.mk.injEq] at e3;obtain⟨q1,q2,q3⟩:=e3;rw[abR h3,k1,k2,b1, ←q1] at h2;rw[ZW h5] at h4;rw[←q1] at k5 k7 h b0;rw[←q2] at k6 e5;refine lA _ _ _ _ _ b5 ?_ h;rw[Hu h1];obtain⟨rd,wr,d1,d2,d3,d4⟩:=aeN h2 h4 e1 e2 iv (by rw[q3,e4];rfl) k3 k4 (by rw[b2,b3,b4];rfl) k5 ((blt_eq _ _).mp b0) e5 k6 k7;exact⟨rd,wr,fun k hk=>by rcases d1 k hk with rfl|rfl|h;exact .inl jF;exact .inl jF;exact .inr h,fun k hk=>by rcases d2 k hk with rfl|h;exact .inl jF;exact .inr h,d3,d4⟩
    ·obtain⟨x,h1,h⟩:=aZ h;obtain⟨a,h2,h⟩:=aZ h;obtain⟨a',h3,h⟩:=aZ h;obtain⟨ad,h4,h⟩:=aZ h;obtain⟨z,h5,h⟩:=aZ h;obtain⟨z',h6,h⟩:=aZ h;obtain⟨K1,h7,h⟩:=aZ h;obtain⟨h8,h9,gE,h⟩:=gd h;refine hn _ _ _ ?_ h;rw[LD h1];rw[Zs h3,h4] at h2;obtain⟨n0,o0⟩:=ad;have h8:o0=0:=Nat.eq_of_beq_eq_true h8;subst h8;rw[qS h6] at h5;exact agc h2 h5 h7 h9 gE
    ·obtain⟨x,h1,h⟩:=aZ h;obtain⟨a,h2,h⟩:=aZ h;obtain⟨a',h3,h⟩:=aZ h;obtain⟨z,h5,h⟩:=aZ h;obtain⟨z',h6,h⟩:=aZ h;obtain⟨K1,h7,h9,gE,h⟩:=aZ h;refine hn _ _ _ ?_ h;rw[LD h1];rw[SY h3] at h2;rw[qS h6] at h5;exact aeT h2 h5 h7 h9 gE
    ·obtain⟨x,h1,h⟩:=aZ h;obtain⟨a,h2,h⟩:=aZ h;obtain⟨a',h3,h⟩:=aZ h;obtain⟨ag,h4,h⟩:=aZ h;obtain⟨k1,h5,h⟩:=aZ h;obtain⟨h6,h⟩:=gd h;obtain⟨h7,h⟩:=gd h;obtain⟨v,h8,h9,h⟩:=aZ h;refine hn _ _ _ ?_ h;rw[Hp h1];rw[HF h3] at h2;exact O8 h2 h4 h5 h6 h7 h8 h9
    ·obtain⟨x,h1,h⟩:=aZ h;obtain⟨a,h2,h⟩:=aZ h;obtain⟨a',h3,h⟩:=aZ h;obtain⟨ag,h4,h⟩:=aZ h;obtain⟨h5,h⟩:=gd h;obtain⟨h7,h8,hy,ko⟩:=gd h;have h5:ag=false:=by simpa using h5
     subst h5;rw[HF h3] at h2;exact aaG hy ko (fun e h=>hn _ _ _ (by rw[Hp h1];exact O8 h2 h4 rfl rfl h7 rfl<|by rw[h8,e]) h) fun e h=>hn _ _ _ (by rw[Hp h1];exact O8 h2 h4 rfl rfl h7 rfl<|by rw[h8,e]) h
    ·obtain⟨x,h1,h⟩:=aZ h;obtain⟨a,h2,h⟩:=aZ h;obtain⟨a',h3,h⟩:=aZ h;obtain⟨ag,h4,h⟩:=aZ h;obtain⟨z,hz,h⟩:=aZ h;obtain⟨k1,h5,h⟩:=aZ h;obtain⟨v,h8,h9,gE,h⟩:=aZ h;refine hn _ _ _ ?_ h;rw[Hp h1];rw[ZX h3] at h2;exact aeV h2 h4 hz h5 h8 h9 gE
    ·obtain⟨x,h1,h⟩:=aZ h;obtain⟨a,h2,h⟩:=aZ h;obtain⟨a',h3,h⟩:=aZ h;obtain⟨v,h4,h⟩:=aZ h;obtain⟨k1,h5,h⟩:=aZ h;obtain⟨h6,h⟩:=gd h;obtain⟨h7,h⟩:=gd h;obtain⟨h8,h⟩:=gd h;obtain⟨h9,gE,h⟩:=gd h;refine hn _ _ _ ?_ h;rw[YO h1];rw[HF h3] at h2;exact aeU h2 h4 h5 h6 h7 h8 h9 gE
    ·obtain⟨x,h1,h⟩:=aZ h;obtain⟨h6,h⟩:=gd h;obtain⟨a,h2,h⟩:=aZ h;obtain⟨b,h3,h⟩:=aZ h;obtain⟨a1,h4,h⟩:=aZ h;obtain⟨b1,h5,h⟩:=aZ h;obtain⟨h8,h7,h⟩:=gd h;have ea:x.1= .rem:=by revert h6;split<;>intro h6<;>first|assumption|cases h6
     have h8:=of_decide_eq_true h8;refine hn _ _ _ ?_ h;rw[LC h1];rw[qS h4] at h2;rw[qS h5, ←h8] at h3;exact agd ea h2 h3 h7
    ·obtain⟨x,h1,h⟩:=aZ h;obtain⟨a,h2,h⟩:=aZ h;obtain⟨a',h3,h⟩:=aZ h;obtain⟨b,h4,h⟩:=aZ h;obtain⟨b',h5,h⟩:=aZ h;obtain⟨i1,h6,h⟩:=aZ h;obtain⟨hb,k1,k2,k3,k4,k5,k6,k7,k8,h⟩:=gd h;obtain⟨b1,hb⟩:=and_true.1 hb;obtain⟨b2,hb⟩:=and_true.1 hb;obtain⟨b3,b4⟩:=and_true.1 hb;obtain⟨ty,e,e1,e2,e3,e4,e5⟩:=Hv h6;cases iv:E.P.info? e with
     |none=>rw[iv] at e3;cases e3
     |some i0=>rw[iv] at e3;simp only[Option.map_some,Option.some.injEq,Prod.mk.injEq] at e3;obtain⟨q1,q2,q3⟩:=e3;rw[Av h3] at h2;rw[SY h5] at h4;rw[←q1] at k4 k6 k8 h b1;rw[←q2] at k7 e5;refine lA _ _ _ _ _ b4 ?_ h;rw[Hu h1];obtain⟨rd,wr,d1,d2,d3,d4⟩:=aeM (s:=gO D s) (YG:=bc E.P E.sp E.F n) h2 k1 h4 e1 e2 iv (by rw[q3,e4];rfl) b1 k3 (fun s'=>abT k4) k5 k2 (by rw[b2,b3];rfl) k6 e5 k7 k8;exact⟨rd,wr,fun k hk=>by rcases d1 k hk with rfl|h;exact .inl jF;exact .inr h,fun k hk=>by rcases d2 k hk with rfl|h;exact .inl jF;exact .inr h,d3,d4⟩
    ·obtain⟨x,h1,h2,h⟩:=aZ h;exact hn _ _ _ (ZV h1 h2) h
    ·obtain⟨x,h1,h⟩:=aZ h;obtain⟨a,h2,h⟩:=aZ h;obtain⟨a',h3,h⟩:=aZ h;obtain⟨z,h5,h⟩:=aZ h;obtain⟨z',h6,h⟩:=aZ h;obtain⟨K1,h7,h9,gE,h⟩:=aZ h;refine hn _ _ _ ?_ h;rw[LD h1];rw[HF h3] at h2;rw[qS h6] at h5;exact aeS h2 h5 h7 h9 gE
    ·obtain⟨x,h1,h⟩:=aZ h;obtain⟨m,hm,h⟩:=aZ h;obtain⟨q,h2,h⟩:=aZ h;obtain⟨z,h3,h⟩:=aZ h;obtain⟨u,h4,h⟩:=aZ h;obtain⟨h5,h6,h⟩:=gd h;obtain⟨c1,h5⟩:=and_true.1 h5;obtain⟨c2,h5⟩:=and_true.1 h5;obtain⟨c3,h5⟩:=and_true.1 h5;obtain⟨c4,c5⟩:=and_true.1 h5;have e:=EO hm;have c2:q.1=u.1:=Nat.eq_of_beq_eq_true c2;refine hn _ _ _ ?_ h;rw[e];refine Aj h1 ?_;rw[Zu h3];exact hE.tt _ _ _ _ _ _ _ _ _ h2 c1 c3 c4 c5 (by rw[aaH h4,c2]) h6
    ·obtain⟨x,h1,h⟩:=aZ h;obtain⟨m,hm,h⟩:=aZ h;obtain⟨q,h2,h⟩:=aZ h;obtain⟨h5,h6,h⟩:=gd h;obtain⟨c1,c2⟩:=and_true.1 h5;have e:=EO hm;refine hn _ _ _ ?_ h;rw[e];exact Aj h1<|hE.tn _ _ _ _ _ _ _ h2 c1 c2 h6
    ·obtain⟨x,h1,h⟩:=aZ h;obtain⟨a,h2,h⟩:=aZ h;obtain⟨n',h3,h⟩:=aZ h;obtain⟨i',h4,h⟩:=aZ h;obtain⟨i1,h5,h⟩:=aZ h;obtain⟨y,h6,h⟩:=aZ h;obtain⟨hb,h7,h8,h9⟩:=gd h;obtain⟨b1,hb⟩:=and_true.1 hb;obtain⟨b2,hb⟩:=and_true.1 hb;obtain⟨b3,hb⟩:=and_true.1 hb;obtain⟨b4,b5⟩:=and_true.1 hb;rw[SX h3] at h2;rw[qS h5,Ms b3] at h4;have key:=aeO (P:=E.P) (YG:=bc E.P E.sp E.F n) h2 h4 (Sd h6) b1 b2 (abQ b4) h7 b5;rw[←YN h1] at key;cases hq:lB _ i1.2 with
     |true=>rw[hq,if_pos rfl] at key;exact hn _ _ _ key<|h8 hq
     |false=>rw[hq,if_neg (by intro e;cases e)] at key;exact hn _ _ _ key<|h9 hq
    ·obtain⟨x,h1,h⟩:=aZ h;obtain⟨a,h2,h⟩:=aZ h;obtain⟨n',h3,h⟩:=aZ h;obtain⟨i',h4,h⟩:=aZ h;obtain⟨i1,h5,h⟩:=aZ h;obtain⟨v',h8,h⟩:=aZ h;obtain⟨v1,h9,h⟩:=aZ h;obtain⟨y,h6,h⟩:=aZ h;obtain⟨hb,h7,h⟩:=gd h;obtain⟨b1,hb⟩:=and_true.1 hb;obtain⟨b2,hb⟩:=and_true.1 hb;obtain⟨b3,hb⟩:=and_true.1 hb;obtain⟨b4,hb⟩:=and_true.1 hb;obtain⟨b5,b6⟩:=and_true.1 hb;refine hn _ _ _ ?_ h;rw[Zb h1];rw[SX h3] at h2;rw[qS h5,Ms b3] at h4;rw[qS h9,Ms b4] at h8;exact aeP h2 h4 h8 (Sd h6) b1 b2 h7 b5 b6
    ·obtain⟨x,h1,h⟩:=aZ h;obtain⟨a,h2,h⟩:=aZ h;obtain⟨a',h3,h⟩:=aZ h;obtain⟨K1,h4,h⟩:=aZ h;obtain⟨nV,h5,h⟩:=aZ h;obtain⟨iv,h6,h⟩:=aZ h;obtain⟨h7,h8,h9,k1,hz⟩:=gd h;rw[h8] at h5;rw[Av h3] at h2;refine hn _ _ _ ?_ hz;rw[YP h1];exact age h2 h4 h5 h6 h7 h9 k1
    ·obtain⟨x,h1,h⟩:=aZ h;obtain⟨a,h2,h⟩:=aZ h;obtain⟨a',h3,h⟩:=aZ h;obtain⟨K1,h4,h⟩:=aZ h;obtain⟨hi,h5,h⟩:=aZ h;obtain⟨iv,h6,h⟩:=aZ h;obtain⟨mx,h7,h⟩:=aZ h;obtain⟨D1,h8,h⟩:=aZ h;obtain⟨h9,k1,k2,k3,h⟩:=gd h;rw[Av h3] at h2;rw[qS h6] at h5;rw[qS h8] at h7;refine hn _ _ _ ?_ h;rw[YI h1];exact agf h2 h4 h5 h7 h9 k1 k2 k3
    ·obtain⟨x,h1,h⟩:=aZ h;obtain⟨a,h2,h⟩:=aZ h;obtain⟨a',h3,h⟩:=aZ h;obtain⟨b,h4,h⟩:=aZ h;obtain⟨b',h5,h⟩:=aZ h;obtain⟨i1,h6,h⟩:=aZ h;obtain⟨hb,k0,k1,k2,k3,k4,k5,k6,k7,k8,k9,rS,yh,h⟩:=gd h;obtain⟨b1,hb⟩:=and_true.1 hb;obtain⟨b2,hb⟩:=and_true.1 hb;obtain⟨b3,b4⟩:=and_true.1 hb;obtain⟨ty,e,e1,e2,e3,e4,e5⟩:=Hv h6;cases iv:E.P.info? e with
     |none=>rw[iv] at e3;cases e3
     |some i0=>rw[iv] at e3;simp only[Option.map_some,Option.some.injEq,Prod.mk.injEq] at e3;obtain⟨q1,q2,q3⟩:=e3;rw[Av h3,k0] at h2;rw[Av h5] at h4;rw[←q1] at k6 k7 k8 h;rw[←q2] at rS e5;refine lA _ _ _ _ _ b4 ?_ h;rw[Hu h1];obtain⟨rd,wr,d1,d2,d3,d4⟩:=aeQ (s:=gO D s) (YG:=bc E.P E.sp E.F n) h2 h4 e1 e2 iv (by rw[q3,e4];rfl) k1 k2 k3 k4 k5 k6 k7 k8 (by rw[b1,b2,b3];rfl) k9 e5 rS yh;exact⟨rd,wr,fun k hk=>by rcases d1 k hk with rfl|rfl|h;exact .inl jF;exact .inl jF;exact .inr h,fun k hk=>.inr<|d2 k hk,d3,d4⟩
    ·obtain⟨x,h1,h⟩:=aZ h;obtain⟨a,h2,h⟩:=aZ h;obtain⟨a',h3,h⟩:=aZ h;obtain⟨b,h4,h⟩:=aZ h;obtain⟨b',h5,h⟩:=aZ h;obtain⟨i1,h6,h⟩:=aZ h;obtain⟨hb,k0,kk,k1,k2,k3,k4,k5,k6,k7,k8,k9,rS,yh,h⟩:=gd h;obtain⟨b0,hb⟩:=and_true.1 hb;obtain⟨b1,hb⟩:=and_true.1 hb;obtain⟨b2,b3⟩:=and_true.1 hb;obtain⟨ty,e,e1,e2,e3,e4,e5⟩:=Hv h6;cases iv:E.P.info? e with
     |none=>rw[iv] at e3;cases e3
     |some i0=>rw[iv] at e3;simp only[Option.map_some,Option.some.injEq,Prod.mk.injEq] at e3;obtain⟨q1,q2,q3⟩:=e3;rw[Av h3,k0] at h2;rw[Av h5] at h4;rw[←q1] at k6 k7 k8 h b0;rw[←q2] at rS e5;refine hn _ _ _ ?_ h;rw[Hu h1];exact aeR (s:=gO D s) (YG:=bc E.P E.sp E.F n) h2 h4 e1 e2 iv (by rw[q3,e4];rfl) kk k1 (by unfold xC at b0;exact(blt_eq _ _).mp b0) k2 k3 k4 k5 k6 k7 k8 (by rw[b1,b2,b3];rfl) k9 e5 rS yh
    ·obtain⟨x,h1,h⟩:=aZ h;obtain⟨m,hm,h⟩:=aZ h;have e:=EO hm;split at h
     ·exact h.elim
     ·rename_i ui;obtain⟨fn,cj,h⟩:=aZ h;obtain⟨body,ct,h⟩:=aZ h;obtain⟨dE,h⟩:=gd h;obtain⟨oS,h⟩:=gd h;have dE:(fn.name == "runtime.NumGoroutine")=false:=by simpa using dE
      have H:=ih m _ _ _ nx (fun _ _ _=>False) (Ev E.P (bc E.P E.sp E.F m) fun aO jm s1=>∃v s2 p,finish E.P fn.results.toList aO jm s1= .ok v s2/\nx v s2 p) Chunk.ev (fun fr s j aO jm s1 v s2 p q1 q2 q3=>⟨j,aO,jm,s1,q1,v,s2,p,q2,q3⟩) (fun _ _ _ q=>q.elim) (fun _ _ _ _ _ _ _ _ _ _ _ _ _ _ _ q=>q.elim) (fun _ _ _ _ _ _ _ _ _ _ _ _ _ _ _ q=>q.elim) (fun _ _ _ _ _ _ _ _ _ _ _ _ _ _ _ _ q=>q.elim) h;obtain⟨j,aO,jm,s1,q1,v,s2,p,q2,q3⟩:=H;refine hn _ _ _ (Aj h1 ?_) q3;rw[e];show jH E.P E.sp x.1 (bc E.P E.sp E.F m) x.2 _=_;rw[MY ui cj ct dE];unfold uV;rw[oS,dq,M.bK<|HP q1];exact q2
    ·exact h.elim
theorem aT{B:Prop}(c:Prop)(x:c->A)(y:¬c->B):(c->A)/\(¬c->B):=⟨x,y⟩
theorem au.back{P:Program}{s:AS}{t:Tr AV}{nt f:Nat}{K:List Item}{o:List<|Nat×Option ae}{nx:Nat}(hl:pJ top l=true)(ho:pJ nx o=true)(hn:(Nat.ble nx s.nx&&(Nat.blt s.nx top&&Nat.ble J nx))=true)(hg:fI<=J)(ht:xz t l)(hh:xP s.h o)(he:tI nx l o)(H:au P B J Q ⟨f,aE l,nt,K,[],none⟩<|ah o nx):au P B J Q ⟨f,t,nt,K,[],none⟩ s:=by
 obtain⟨n1,n2⟩:=and_true.1 hn;obtain⟨n2,n3⟩:=and_true.1 n2;have n1:=aL.1 n1;have n2:=(blt_eq _ _).mp n2;have n3:=aL.1 n3;let r:Nat->Nat:=fun k=>if k<nx\/top<=k then k else max k s.nx
 have r1:∀k,k<nx->r k=k:=fun k hk=>by show(if _ then _ else _)=_;rw[if_pos<|.inl hk]
 have r2:∀k,top<=k->r k=k:=fun k hk=>by show(if _ then _ else _)=_;rw[if_pos<|.inr hk]
 obtain⟨e1,e2⟩:=he r r1 r2;refine au.weaken (s2:=ah o nx) (t2:=aE l) [] r (fun k hk=>r1 k aj) (fun k hk ht=>?_) r2 hg ⟨Nat.zero_le _,by show nx<=top;omega⟩ rfl rfl (fun _ h=>by cases h) (fun i y hy=>?_) (fun n o2 hn hg=>?_) (fun _ h=>by cases h) (fun n m x y hn hm h1 h2 e=>?_) H
 ·have zG:nx<=k:=hk;show s.nx<=(if _ then _ else _)/\(if _ then _ else _)<top;rw[if_neg aj];omega
 ·have hm:=Cz (fun p hp=>wJ hl p hp) hy;exact⟨y,ht.mem _ hm,(e1 _ hm).z⟩
 ·have cL:∀p∈o,p.1<top:=fun p hp=>by have:=wJ ho p hp;omega
  have hm:=uK cL hg;obtain⟨h1,h2⟩:=hh.mem _ hm;have bZ:n<nx:=wJ ho _ hm;rw[r1 n bZ];exact⟨hn,.inl<|h2 o2 rfl,o2,h1,fK.refl _,(e2 _ hm o2 rfl).z⟩
 ·have cL:∀p∈o,p.1<top:=fun p hp=>by have:=wJ ho p hp;omega
  have a1:n<nx:=wJ ho _<|uK cL h1;have a2:m<nx:=wJ ho _<|uK cL h2;rw[r1 n a1,r1 m a2] at e;exact e
theorem au.rn{P:Program}{s:AS}{t:Tr AV}{nt f:Nat}{K:List Item}{l0:List<|Nat×AV}{o0 o:List<|Nat×Option ae}{nx:Nat}(hg:fI<=J)(h1:l0.map (fun q=>t.get q.1)=l0.map (fun q=>some q.2))(h2:o0.map (fun q=>s.h.get q.1)=o0.map (fun q=>q.2))(hw:hJ B.F J s.nx l0 o0 l o nx)(H:au P B J Q ⟨f,aE l,nt,K,[],none⟩<|ah o nx):au P B J Q ⟨f,t,nt,K,[],none⟩ s:=by
 obtain⟨fz,r,r1,r2,r3,r4,r5,r6,r7,r8,r9⟩:=hw;have hs:∀(l0:List<|Nat×AV),l0.map (fun q=>t.get q.1)=l0.map (fun q=>some q.2)->∀p∈l0,t.get p.1=some p.2:=by
  intro l0;induction l0 with
  |nil=>intro _ p hp;cases hp
  |cons a l ih=>
   intro h p hp;simp only[List.map_cons,List.cons.injEq] at h;rcases List.mem_cons.1 hp with rfl|hp
   ·exact h.1
   ·exact ih h.2 p hp
 have ho:∀(o0:List<|Nat×Option ae),o0.map (fun q=>s.h.get q.1)=o0.map (fun q=>q.2)->∀p∈o0,s.h.get p.1=p.2:=by
  intro o0;induction o0 with
  |nil=>intro _ p hp;cases hp
  |cons a l ih=>
   intro h p hp;simp only[List.map_cons,List.cons.injEq] at h;rcases List.mem_cons.1 hp with rfl|hp
   ·exact h.1
   ·exact ih h.2 p hp
 have yj:∀n y,n<top->(fR o).get n=some y->(n,some y)∈o:=fun n y hn hg=>uK (fun p hp=>(r6 p hp).1) hg;refine au.weaken (s2:=ah o nx) (t2:=aE l) fz r r1 (fun k hk ht=>r2 k hk ht) r3 hg ⟨Nat.zero_le _,r4⟩ rfl rfl (fun p hp=>?_) (fun i y hy=>?_) (fun n y hn hg=>?_) (fun p hp n y hn hg=>?_) (fun n m x y hn hm e1 e2 e=>?_) H
 ·obtain⟨q1,q2,N,t',z,q3,q4⟩:=r8 p hp;exact⟨q1,q2,N,t',z,ho o0 h2 _ q3,fun i x hx=>by obtain⟨i1,i2,i3,i4⟩:=q4 i x hx;exact⟨i1,i2,i3,fun ρ v hv=>AV.uW aeL i4 hv⟩⟩
 ·have hm:=Cz (fun p hp=>(r5 p hp).1) hy;obtain⟨_,x,hx,hv⟩:=r5 _ hm;exact⟨x,hs l0 h1 _ hx,hv⟩
 ·obtain⟨_,q⟩:=r6 _<|yj n y hn hg;obtain⟨q1,q2,x,q3,q4,q5⟩:=q y rfl;exact⟨q1,.inl q2,x,ho o0 h2 _ q3,q4,q5⟩
 ·exact r9 p hp _ (yj n y hn hg) jF
 ·exact r7 _ (yj n x hn e1) _ (yj m y hm e2) jF jF e
theorem wp_cut{E:Env}(hE:E.Ok){P:Program}(hP:E.P=P){f nt:Nat}{t:Tr AV}{K:List Item}{s:AS}{R:AV->AS->Prop}(bH:P.follows .mixedOrders=true)(hc:fQ P B<|bc E.P E.sp E.F n)(hl:∀t a,YF<|bc E.P E.sp E.F n t a)(hg:fI<=J)(eW:E.lo=J)(hF:B.F=E.F){C:xT}(hC:∀fr s p,C fr s p->au P B J (Fin P rs R) fr s)(fuel:Nat)(p:Pl)(x:T)(h:T=wp E fuel n (.fr f nt K t s) p rs (fun v s _=>R v s) C:=by as_aux_lemma=>kernel_rfl)(h0:Nat.ble J s.nx=true:=by as_aux_lemma=>kernel_rfl):au P B J (Fin P rs R) ⟨f,t,nt,K,[],none⟩ s:=by
 subst hP;have H:=CC hE fuel n (.fr f nt K t s) p rs (fun v s _=>R v s) C (zp E.P B J<|Fin E.P rs R) (Chunk.Eb bH hc hl)
  (fun fr s j aO jm s1 v s2 p q1 q2 q3 h0=>au.leave bH hc hl q1 h0 ⟨v,s2,by rw[←EM];exact q2,q3⟩) (fun fr s p q _=>hC fr s p q)
  (fun f nt K t s l o nx p _ q1 q2 q3 q4 q5 q6 _=>au.less q1 q2 q3 hg q4 q5<|hC _ _ _ q6) (fun f nt K t s l0 o0 l o nx p _ q1 q2 q3 q4 _=>au.rn hg q1 q2 (by rw[←eW,hF];exact q3)<|hC _ _ _ q4) (fun f nt K t s l o nx p _ q1 q2 q3 q4 q5 q6 q7 _=>au.back q1 q2 (by rw[←eW];exact q3) hg q4 q5 q6<|hC _ _ _ q7) (h▸x)
 exact zp.start h0 H
theorem lZ{E:Env}(hE:E.Ok){P:Program}(hP:E.P=P){f nt:Nat}{t:Tr AV}{K:List Item}{s:AS}{R:AV->AS->Prop}(bH:P.follows .mixedOrders=true)(hc:fQ P B<|bc E.P E.sp E.F n)(hl:∀t a,YF<|bc E.P E.sp E.F n t a)(fuel:Nat)(p:Pl)(x:T)(h:T=wp E fuel n (.fr f nt K t s) p rs (fun v s _=>R v s) (fun _ _ _=>False):=by as_aux_lemma=>kernel_rfl)(h0:Nat.ble J s.nx=true:=by as_aux_lemma=>kernel_rfl):au P B J (Fin P rs R) ⟨f,t,nt,K,[],none⟩ s:=by subst hP;have H:=CC hE fuel n (.fr f nt K t s) p rs (fun v s _=>R v s) (fun _ _ _=>False) (zp E.P B J<|Fin E.P rs R) (Chunk.Eb bH hc hl) (fun fr s j aO jm s1 v s2 p q1 q2 q3 h0=>au.leave bH hc hl q1 h0 ⟨v,s2,by rw[←EM];exact q2,q3⟩) (fun _ _ _ q=>q.elim) (fun _ _ _ _ _ _ _ _ _ _ _ _ _ _ _ q=>q.elim) (fun _ _ _ _ _ _ _ _ _ _ _ _ _ _ _ q=>q.elim) (fun _ _ _ _ _ _ _ _ _ _ _ _ _ _ _ _ q=>q.elim)<|h▸x;exact zp.start h0 H
def rT(E:Env)(n:Nat)(rs:List ResultVar)(R:AV->AS->Prop)(fr:AF)(s:AS):Prop:=Ev E.P (bc E.P E.sp E.F n) (fun aO jm s1=>∃v s2,finish E.P rs aO jm s1= .ok v s2/\R v s2) fr s
theorem FX{E:Env}(hE:E.Ok)(uj:E.fg=false){f nt:Nat}{t:Tr AV}{K:List Item}{s:AS}{R:AV->AS->Prop}{C:xT}(hC:∀fr s p,C fr s p->rT E n rs R fr s)(fuel:Nat)(p:Pl)(x:T)(h:T=wp E fuel n (.fr f nt K t s) p rs (fun v s _=>R v s) C:=by as_aux_lemma=>kernel_rfl):rT E n rs R ⟨f,t,nt,K,[],none⟩ s:=CC hE fuel n (.fr f nt K t s) p rs (fun v s _=>R v s) C (rT E n rs R) Chunk.ev (fun fr s j aO jm s1 v s2 p q1 q2 q3=>⟨j,aO,jm,s1,q1,v,s2,q2,q3⟩) hC (fun _ _ _ _ _ _ _ _ _ q=>by rw[uj] at q;cases q) (fun _ _ _ _ _ _ _ _ _ _ _ q=>by rw[uj] at q;cases q) (fun _ _ _ _ _ _ _ _ _ q=>by rw[uj] at q;cases q)<|h▸x
theorem rT.call{E:Env}{g:Nat}{fn:Func}{body:Code}{args:List AV}{s:AS}{R:AV->AS->Prop}(cj:E.P.funcs[g]? =some fn)(ct:fn.body=some body)(H:rT E n fn.results.toList R ⟨g,dt args,max fn.ntmps args.length,[.code body],[],none⟩ s)(h0:((fn.name == "runtime.NumGoroutine"),(E.sp g).isNone,Nat.ble (max fn.ntmps args.length) top)=(false,true,true):=by as_aux_lemma=>kernel_rfl):∃v s2,bc E.P E.sp E.F (n+1) (.fn g) args s= .ok v s2/\R v s2:=by
 injection h0 with dE h0
 injection h0 with ui oS
 have ahX:E.sp g=none:=Option.isNone_iff_eq_none.1 ui;obtain⟨j,aO,jm,s1,q1,v,s2,q2,q3⟩:=H;refine⟨v,s2,?_,q3⟩;show jH E.P E.sp g (bc E.P E.sp E.F n) args s=_;rw[MY ahX cj ct dE];unfold uV;rw[oS,dq,M.bK<|HP q1];exact q2
end Go.Rn
namespace Go.Rn
open Go.RowKit
variable {α:Type} {l:List α} {i K:Nat} {enc:α->List AV} {c c0 c':α} {r:List AV}
theorem tfb{A B:Prop}(b:Bool)(x:b=true->A)(y:b=false->B):(b=true->A)/\(b=false->B):=⟨x,y⟩
theorem mB(he:∀x,(enc x).length=K)(hl:l.length*K<=top)(hc:l[i]? =some c)(j k:Nat)(hj:Nat.ble (j+k) K=true):cellsOf (some<|aC enc l) (i*K+j) k=some (((enc c).drop j).take k):=by have rQ:=aL.1 hj;obtain⟨q1,q2⟩:=Us he (k:=k) hc rQ;show(match Nat.ble (i*K+j+k) (l.map enc).flatten.length with|true=>lO (Tr.fill (l.map enc).flatten 0 .nil) [] k (i*K+j)|false=>none)=_;rw[aL.2 q1];show lO (Tr.fill (l.map enc).flatten 0 .nil) [] k (i*K+j)=_;rw[LP (by rw[yE he];exact hl) _ _ q1,q2]
theorem ac9(he:∀x,(enc x).length=K)(hl:l.length*K<=top)(hc:l[i]? =some c0)(j k:Nat)(hj:Nat.ble (j+k) K=true):cellsOf (some<|aC enc<|l.set i c) (i*K+j) k=some (((enc c).drop j).take k):=mB he (by rw[List.length_set];exact hl) (TB hc) j k hj
theorem pv(he:∀x,(enc x).length=K)(hl:l.length*K<=top)(hc:l[i]? =some c)(j:Nat)(hr:enc c'=im (enc c) j r)(hj:Nat.ble (j+r.length) K=true)(h1:r.all AV.bR=true):xA (some<|aC enc l) (i*K+j) r=some (aC enc<|l.set i c'):=by
 have rQ:=aL.1 hj;obtain⟨q1,_⟩:=Us he (k:=r.length) hc rQ;have Ge:=abN he hc hr rQ;have hlen:(l.map enc).flatten.length<=top:=by rw[yE he];exact hl
 show(match (Nat.ble (i*K+j+r.length) (l.map enc).flatten.length&&(Nat.ble (l.map enc).flatten.length top&&r.all AV.bR)) with|true=>some (ae.cells (l.map enc).flatten.length (Tr.fill r (i*K+j)<|Tr.fill (l.map enc).flatten 0 .nil) [])|false=>none)=_;rw[show(Nat.ble (i*K+j+r.length) (l.map enc).flatten.length&&(Nat.ble (l.map enc).flatten.length top&&r.all AV.bR))=true from and_true.2 ⟨aL.2 q1,and_true.2 ⟨aL.2 hlen,h1⟩⟩];show some _=some _;congr 1;unfold aC;rw[SS r _ _ q1 hlen,Ge,yE he,yE he,List.length_set]
theorem ada(he:∀x,(enc x).length=K)(hl:l.length*K<=top)(hc:l[i]? =some c0)(j:Nat)(hr:enc c'=im (enc c) j r)(hj:Nat.ble (j+r.length) K=true)(h1:r.all AV.bR=true):xA (some<|aC enc<|l.set i c) (i*K+j) r=some (aC enc<|l.set i c'):=by rw[pv he (by rw[List.length_set];exact hl) (TB hc) j hr hj h1,List.set_set]
end Go.Rn
namespace Go.Rn
open Go.RowKit
def Gl(nx:Nat)(x:AV):Bool:=match x with
 | .U n _ _=>Nat.blt n nx&&Nat.blt n top
 | .func (.func _) [] []=>true
 | .slice none 0 (.known 0)=>true
 |x=>x.flat
theorem bg.aaI{r:Nat->Nat}{n o len:Nat}(e:r n=n)(h:n<top):bg r (.U n o len)<|.U n o len:=by intro ρ v k;simp only[VR] at k ⊢;exact k.imp id fun⟨b,sh,c,h1,h2⟩=>⟨b,sh,c,.inl ⟨by omega,(congrArg ρ e).trans<|h1.low aj⟩,h2⟩
theorem TG{nx:Nat}{x:AV}{r:Nat->Nat}(r1:∀k,k<nx->r k=k)(h:Gl nx x=true):bg r x x:=by
 unfold Gl at h;split at h
 ·obtain⟨h1,h2⟩:=and_true.1 h;exact bg.aaI (r1 _<|(blt_eq _ _).mp h1)<|(blt_eq _ _).mp h2
 ·intro ρ v k;simp only[VR,ay] at k ⊢;exact k
 ·exact bg.yD
 ·exact bg.flat h
noncomputable def Gm(nx:Nat)(t:Tr AV):Nat->Bool
 |0=>true
 |n+1=>(match t.get n with|some x=>Gl nx x|none=>true)&&Gm nx t n
theorem NJ{nx:Nat}{t:Tr AV}:∀{n i:Nat} {x:AV},Gm nx t n=true->i<n->t.get i=some x->Gl nx x=true
 |0,_,_,_,h,_=>by omega
 |n+1,i,x,h,hi,hx=>by
  obtain⟨h1,h2⟩:=and_true.1 (show((match t.get n with|some x=>Gl nx x|none=>true)&&Gm nx t n)=true from h);by_cases q:i=n
  ·subst q;rw[hx] at h1;exact h1
  ·exact NJ h2 aj hx
noncomputable def PK(nx:Nat)(o:ae):Bool:=match o with
 | .ro n t=>Gm nx t n
 | .th n t=>Gm nx t n
 |_=>false
theorem abU{nx:Nat}{o:ae}{r:Nat->Nat}(r1:∀k,k<nx->r k=k)(h:PK nx o=true):lS r o o:=by
 unfold PK at h;split at h
 ·intro ρ N ob k;simp only[OR] at k ⊢;obtain⟨c,e,fr,k1,k2,k3,k4⟩:=k;exact⟨c,e,fr,k1,k2,k3,fun i hi=>let ⟨x,v,a1,a2,a3,a4⟩:=k4 i hi;⟨x,v,a1,a2,a3,TG r1 (NJ h hi a1) ρ v a4⟩⟩
 ·intro ρ N ob k;simp only[OR] at k ⊢;obtain⟨c,e,fr,k1,k4⟩:=k;exact⟨c,e,fr,k1,fun i hi=>let ⟨x,v,a1,a2,a3,a4⟩:=k4 i hi;⟨x,v,a1,a2,a3,TG r1 (NJ h hi a1) ρ v a4⟩⟩
 ·cases h
theorem E9{nx:Nat}{o:List<|Nat×Option ae}{r:Nat->Nat}(r1:∀k,k<nx->r k=k)(h:(o.all fun p=>match p.2 with|some x=>PK nx x|none=>true)=true):∀p∈o,∀x,p.2=some x->lS r x x:=by intro p hp x hx;have:=List.all_eq_true.1 h p hp;rw[hx] at this;exact abU r1 this
end Go.Rn
namespace Go.Rn
theorem Qy{α:Type}(enc:α->List AV)(l:List α)(c:α){K nj:Nat}{X:Prop}(h1:∀x,(enc x).length=K/\(enc x).all AV.bR=true)(h2:2*(l.length+1)*nj+4096*nj<=room)(h3:(l.length+1)*K<=Rn.top)(x:X):l.length=l.length/\l.length=l.length/\some (aC enc l)=some (aC enc l)/\some (ae.cells (enc c).length (Tr.fill (enc c) 0 .nil) [])=some (ae.cells (enc c).length (Tr.fill (enc c) 0 .nil) [])/\(∀x,(enc x).length=K/\(enc x).all AV.bR=true)/\2*(l.length+1)*nj+4096*nj<=room/\(l.length+1)*K<=Rn.top/\X:=⟨rfl,rfl,rfl,rfl,h1,h2,h3,x⟩
end Go.Rn
namespace Go.Rn
open Go.RowKit
variable {J K k:Nat} {α:Type} {ρ:Ren} {v x:AV} {enc:α->List AV} {args cs:List AV} {w:World} {ns:List Nat} {h0 h:Tr ae} {B:aJ}
def qh:List Nat->Nat
 |[]=>0
 |x::l=>pr x<|qh l
theorem Vp(a b:Nat):0<pr a b:=Nat.mul_pos (Nat.pow_pos aj) aj
theorem My:∀{l m:List Nat},qh l=qh m->l=m
 |[],[],_=>rfl
 |[],x::m,h=>by have:=Vp x<|qh m;simp only[qh] at h;omega
 |x::l,[],h=>by have:=Vp x<|qh l;simp only[qh] at h;omega
 |x::l,y::m,h=>by obtain⟨h1,h2⟩:=fH (show pr x (qh l)=pr y (qh m) from h);rw[h1,My h2]
def Be:Int->Nat
 | .ofNat n=>2*n
 | .negSucc n=>2*n+1
theorem aaJ:∀{a b:Int},Be a=Be b->a=b
 | .ofNat n,.ofNat m,h=>by have h:2*n=2*m:=h;rw[show n=m by omega]
 | .ofNat n,.negSucc m,h=>by have h:2*n=2*m+1:=h;omega
 | .negSucc n,.ofNat m,h=>by have h:2*n+1=2*m:=h;omega
 | .negSucc n,.negSucc m,h=>by have h:2*n+1=2*m+1:=h;rw[show n=m by omega]
def xD:AV->Nat
 | .bool b=>pr 0 b.toNat
 | .int k n=>pr 1<|pr k.ctorIdx<|Be n
 | .str s=>pr 2<|qh<|s.data.toList.map UInt8.toNat
 | .U n o len=>pr 3<|pr n<|pr o len
 | .nilFunc=>pr 4 0
 | .nilIface=>pr 4 1
 | .ptr none=>pr 4 2
 | .map none=>pr 4 3
 |_=>0
def AV.gg(x:AV):Bool:=match x with
 | .bool _| .int _ _| .str _| .nilFunc| .nilIface| .ptr none| .map none=>true
 | .U n _ _=>Nat.ble top n
 |_=>false
theorem abV:∀{k l:IntKind},k.ctorIdx=l.ctorIdx->k=l:=by intro k l h;cases k<;>cases l<;>first|rfl|(exact absurd h iE)
theorem bytes_inj{s u:ByteArray}(h:s.data.toList.map UInt8.toNat=u.data.toList.map UInt8.toNat):s=u:=by
 have e:s.data.toList=u.data.toList:=by
  refine List.ext_getElem? fun i=>?_;have:=congrArg (fun l=>l[i]?) h;simp only[List.getElem?_map] at this;cases e1:s.data.toList[i]? with
  |none=>rw[e1] at this;cases e2:u.data.toList[i]? with
   |none=>rfl
   |some y=>rw[e2] at this;cases this
  |some x=>rw[e1] at this;cases e2:u.data.toList[i]? with
   |none=>rw[e2] at this;cases this
   |some y=>rw[e2] at this;simp only[Option.map_some,Option.some.injEq] at this;rw[UInt8.toNat_inj.1 this]
 obtain⟨⟨a⟩⟩:=s;obtain⟨⟨b⟩⟩:=u;have e:a=b:=e;rw[e]
theorem aaK:∀{x y:AV},x.gg=true->y.gg=true->xD x=xD y->x=y:=by
 intro x y hx hy h;cases x<;>first|(cases hx;done)|skip
 case bool a=>
  cases y<;>first|(cases hy;done)|skip
  case bool b=>have:=(fH (show pr 0 a.toNat=pr 0 b.toNat from h)).2;cases a<;>cases b<;>first|rfl|(exact absurd this iE)
  case ptr b=>cases b<;>first|(cases hy;done)|(exact absurd (fH (show pr 0 a.toNat=pr 4 2 from h)).1 iE)
  case map b=>cases b<;>first|(cases hy;done)|(exact absurd (fH (show pr 0 a.toNat=pr 4 3 from h)).1 iE)
  all_goals exact absurd (fH (show pr 0 a.toNat=pr _ _ from h)).1 iE
 case int k n=>
  cases y<;>first|(cases hy;done)|skip
  case int k' n'=>obtain⟨h3,h4⟩:=fH (fH (show pr 1 (pr k.ctorIdx<|Be n)=pr 1 (pr k'.ctorIdx<|Be n') from h)).2;rw[abV h3,aaJ h4]
  case ptr b=>cases b<;>first|(cases hy;done)|(exact absurd (fH (show pr 1 _=pr 4 2 from h)).1 iE)
  case map b=>cases b<;>first|(cases hy;done)|(exact absurd (fH (show pr 1 _=pr 4 3 from h)).1 iE)
  all_goals exact absurd (fH (show pr 1 _=pr _ _ from h)).1 iE
 case str u=>
  cases y<;>first|(cases hy;done)|skip
  case str u'=>rw[bytes_inj<|My (fH (show pr 2 _=pr 2 _ from h)).2]
  case ptr b=>cases b<;>first|(cases hy;done)|(exact absurd (fH (show pr 2 _=pr 4 2 from h)).1 iE)
  case map b=>cases b<;>first|(cases hy;done)|(exact absurd (fH (show pr 2 _=pr 4 3 from h)).1 iE)
  all_goals exact absurd (fH (show pr 2 _=pr _ _ from h)).1 iE
 case U n o l=>
  cases y<;>first|(cases hy;done)|skip
  case U n' o' l'=>obtain⟨h3,h4⟩:=fH (fH (show pr 3 (pr n<|pr o l)=pr 3 (pr n'<|pr o' l') from h)).2;obtain⟨h5,h6⟩:=fH h4;rw[h3,h5,h6]
  case ptr b=>cases b<;>first|(cases hy;done)|(exact absurd (fH (show pr 3 _=pr 4 2 from h)).1 iE)
  case map b=>cases b<;>first|(cases hy;done)|(exact absurd (fH (show pr 3 _=pr 4 3 from h)).1 iE)
  all_goals exact absurd (fH (show pr 3 _=pr _ _ from h)).1 iE
 case nilFunc=>
  cases y<;>first|(cases hy;done)|rfl|skip
  case ptr b=>cases b<;>first|(cases hy;done)|(exact absurd (fH (show pr 4 0=pr 4 2 from h)).2 iE)
  case map b=>cases b<;>first|(cases hy;done)|(exact absurd (fH (show pr 4 0=pr 4 3 from h)).2 iE)
  case nilIface=>exact absurd (fH (show pr 4 0=pr 4 1 from h)).2 iE
  all_goals exact absurd (fH (show pr 4 0=pr _ _ from h)).1 iE
 case nilIface=>
  cases y<;>first|(cases hy;done)|rfl|skip
  case ptr b=>cases b<;>first|(cases hy;done)|(exact absurd (fH (show pr 4 1=pr 4 2 from h)).2 iE)
  case map b=>cases b<;>first|(cases hy;done)|(exact absurd (fH (show pr 4 1=pr 4 3 from h)).2 iE)
  case nilFunc=>exact absurd (fH (show pr 4 1=pr 4 0 from h)).2 iE
  all_goals exact absurd (fH (show pr 4 1=pr _ _ from h)).1 iE
 case ptr a=>
  cases a<;>first|(cases hx;done)|skip
  cases y<;>first|(cases hy;done)|skip
  case ptr b=>cases b<;>first|(cases hy;done)|rfl
  case map b=>cases b<;>first|(cases hy;done)|(exact absurd (fH (show pr 4 2=pr 4 3 from h)).2 iE)
  case nilIface=>exact absurd (fH (show pr 4 2=pr 4 1 from h)).2 iE
  case nilFunc=>exact absurd (fH (show pr 4 2=pr 4 0 from h)).2 iE
  all_goals exact absurd (fH (show pr 4 2=pr _ _ from h)).1 iE
 case map a=>
  cases a<;>first|(cases hx;done)|skip
  cases y<;>first|(cases hy;done)|skip
  case ptr b=>cases b<;>first|(cases hy;done)|(exact absurd (fH (show pr 4 3=pr 4 2 from h)).2 iE)
  case map b=>cases b<;>first|(cases hy;done)|rfl
  case nilIface=>exact absurd (fH (show pr 4 3=pr 4 1 from h)).2 iE
  case nilFunc=>exact absurd (fH (show pr 4 3=pr 4 0 from h)).2 iE
  all_goals exact absurd (fH (show pr 4 3=pr _ _ from h)).1 iE
theorem Se:∀{l m:List AV},l.all AV.gg=true->m.all AV.gg=true->l.map xD=m.map xD->l=m
 |[],[],_,_,_=>rfl
 |[],_::_,_,_,h=>by cases h
 |_::_,[],_,_,h=>by cases h
 |x::l,y::m,hx,hy,h=>by obtain⟨a1,a2⟩:=and_true.1 (show(x.gg&&l.all AV.gg)=true from hx);obtain⟨b1,b2⟩:=and_true.1 (show(y.gg&&m.all AV.gg)=true from hy);simp only[List.map_cons,List.cons.injEq] at h;rw[aaK a1 b1 h.1,Se a2 b2 h.2]
noncomputable section
def nm(cs:List AV):Nat:=top+2+qh (cs.map xD)
open Classical in
def FU(n:Nat):Option<|List AV:=if h:∃cs:List AV,cs.all AV.gg=true/\nm cs=n then some h.choose else none
def aw(enc:α->List AV)(l:List α):AV:=.U (nm (l.map enc).flatten) 0 l.length
end
theorem cF(cs:List AV):top<=nm cs:=Nat.le_trans (Nat.le_add_right top 2)<|Nat.le_add_right _ _
theorem y9(cs:List AV):nm cs≠top/\nm cs≠top+1:=by unfold nm;omega
theorem Dm(h:cs.all AV.gg=true):FU (nm cs)=some cs:=by have hx:∃ds:List AV,ds.all AV.gg=true/\nm ds=nm cs:=⟨cs,h,rfl⟩;unfold FU;rw[dif_pos hx];obtain⟨h1,h2⟩:=hx.choose_spec;exact congrArg some<|Se h1 h<|My (by have h3:top+2+qh (hx.choose.map xD)=top+2+qh (cs.map xD):=h2;omega)
theorem HR(h:x.gg=true):x.bR=true:=by cases x<;>first|rfl|(cases h;done)
theorem CD(h:x.gg=true):x.cM=true:=by
 cases x<;>first|rfl|(cases h;done)|skip
 ·rename_i a;cases a with
  |none=>rfl
  |some _=>cases h
 ·exact h
 ·rename_i a;cases a with
  |none=>rfl
  |some _=>cases h
theorem aeW(h:cs.all AV.gg=true){off:Nat}(hk:off+k<=cs.length):cv FU (nm cs) off k=some ((cs.drop off).take k):=by unfold cv;rw[Dm h];simp only[(aL.2 hk:Nat.ble (off+k) cs.length=true)]
structure mf {α:Type} (K:Nat) (enc:α->List AV):Prop where
 len:∀a,(enc a).length=K
 gg:∀a,(enc a).all AV.gg=true
theorem mf.all(h:mf K enc):∀l:List α,(l.map enc).flatten.all AV.gg=true
 |[]=>rfl
 |a::l=>by rw[List.map_cons,List.flatten_cons,List.all_append,h.gg a,mf.all h l];rfl
theorem mf.length(h:mf K enc)(l:List α):(l.map enc).flatten.length=l.length*K:=by
 have:=uE (K:=K) (l:=l.map enc) fun c hc=>by obtain⟨a,_,rfl⟩:=List.mem_map.1 hc;exact h.len a
 rw[this,List.length_map]
theorem sS(h:mf K enc){l:List α}{i:Nat}{a:α}(ha:l[i]? =some a)(j k:Nat)(hk:j+k<=K):cv FU (nm (l.map enc).flatten) (i*K+j) k=some (((enc a).drop j).take k):=by
 have hi:=(List.getElem?_eq_some_iff.1 ha).1;have hle:i*K+K<=(l.map enc).flatten.length:=by rw[h.length];have:=Nat.mul_le_mul_right K (show i+1<=l.length from hi);rw[Nat.add_mul,Nat.one_mul] at this;exact this
 rw[aeW (h.all l) aj];have hf:=LZ (l:=l.map enc) (K:=K) (i:=i) (c:=enc a) (fun c hc=>by obtain⟨a,_,rfl⟩:=List.mem_map.1 hc;exact h.len a) (by rw[List.getElem?_map,ha];rfl);have hd:((l.map enc).flatten.drop<|i*K+j).take k=((((l.map enc).flatten.drop<|i*K).take K).drop j).take k:=by rw[List.drop_take,List.take_take,List.drop_drop,Nat.min_eq_left aj]
 rw[hd,hf]
def gi(J:Nat)(ρ:Ren):Ren:=fun k=>if k<J then ρ k else gm ρ k
def rk(B:aJ)(ρ:Ren)(w:World):aJ:=⟨fun k=>w.heap.size<=k,B.F,fun k=>ρ k≠none,B.inv,B.lim,B.mono⟩
theorem sH(ht:J<=top)(hk:top<=k):gi J ρ k=ρ k:=by unfold gi gm;rw[if_neg aj,if_pos hk]
noncomputable section
def pw(J:Nat)(ns:List Nat)(h0:Tr ae)(val:List AV->Option AV):aK->List AV->M AV:=fun _ args=>aG (args.all AV.hi) <| (fG J h0 ns).bind fun _=>aB (val args) fun v=>aG v.hi <| M.pure v
end
theorem YF.pw(J:Nat)(ns:List Nat)(h0:Tr ae)(val:List AV->Option AV)(YG:aK)(args:List AV):YF<|pw J ns h0 val YG args:=YF.aG fun _=>YF.bind (YF.fG J h0 ns) fun _=>YF.aB fun _ _=>YF.aG fun _=>YF.pure _
theorem HB{o p:ae}(h:ou J o p=true):o.mJ=true:=by unfold ou at h;split at h<;>first|rfl|cases h
theorem Dn(ht:J<=top)(r:Rel B ρ h w)(dJ:∀n o,n<top->h0.get n=some o->n∈ns)(eD:∀n∈ns,n<J)(a3:∀n∈ns,∃o p,h.get n=some o/\h0.get n=some p/\ou J o p=true):Rel (rk B ρ w) (gi J ρ) h0 w:=by
 have cq:∀n o,n<top->h0.get n=some o->o.mJ=true/\∃b N o',gi J ρ n=some (b,N)/\w.heap[b]? =some o'/\OR (gi J ρ) N o o':=by
  intro n o hn ho;have iu:=dJ n o hn ho;obtain⟨p1,p2,c2,c3,c4⟩:=a3 n iu;rw[ho] at c3;cases c3;obtain⟨b,N,o',i1,i2,i3,_⟩:=r.is n p1 hn c2;obtain⟨j1,j2⟩:=ZR c4 i3;refine⟨j1,b,N,o',?_,i2,j2.mono fun k x e=>?_⟩
  ·unfold gi;rw[if_pos<|eD n iu];exact i1
  ·have e:(if k<J then ρ k else none)=some x:=e;unfold gi;split at e
   ·rename_i q;rw[if_pos q];exact e
   ·cases e
 refine⟨fun n o hn ho=>?_,fun n m o p b N M hn hm h1 h2 cP _ _=>?_,fun n m es ex left cur hn ho=>?_,fun _ hk=>hk,fun i j m es ex left cur gY iU iH iJ hi _ h1 _=>?_,fun n b sh e=>?_,tY.no (fun n k v hn hg=>by have:=(cq n _ hn hg).1;cases this) ⟨r.tk.1.1,fun n o hn ho _=>by have iu:=dJ n o hn ho;obtain⟨p1,p2,c2,c3,c4⟩:=a3 n iu;rw[ho] at c3;cases c3;obtain⟨b,N,e1,e2⟩:=r.tk.1.2 n p1 hn c2<|HB c4;exact⟨b,N,by unfold gi;rw[if_pos<|eD n iu];exact e1,e2⟩⟩⟩
 ·obtain⟨h1,b,N,o',h2,h3,h4⟩:=cq n o hn ho;have h1:=ae.kg h1;exact⟨b,N,o',h2,h3,h4,fun q=>by rw[h1] at q;cases q⟩
 ·have e1:=ae.kg (cq n o hn h1).1;have e2:=ae.kg (cq m p hm h2).1;rw[e1,e2] at cP;rcases cP with q|q<;>cases q
 ·have:=(cq n _ hn ho).1;cases this
 ·have:=(cq i _ hi h1).1;cases this
 ·rw[sH ht<|gb _ _ _] at e;obtain⟨_,l,c,e',fr,g1,g2,g3,g4⟩:=r.fz n b sh e;refine⟨.inl e,l,c,e',fr,g1,g2,fun m o N hm ho hr _=>?_,fun i x hx=>?_⟩
  ·rw[ae.kg (cq m o hm ho).1] at hr;cases hr
  ·obtain⟨v,k1,k2,k3⟩:=g4 i x hx;refine⟨v,k1,VR.mono (fun k y q=>?_) _ _ k2,k3⟩;unfold gm at q ⊢;split at q
   ·rename_i hk;rw[if_pos hk,sH ht hk];exact q
   ·cases q
def cC(ρ σ:Ren):Ren:=fun k=>if top<=k then σ k else ρ k
theorem I7{σ:Ren}{h4:Tr ae}{w':World}{a:Nat}(ht:J<=top)(r:Rel B ρ h w)(q3:Rel (rk B ρ w) σ h4 w')(q4:cw (rk B ρ w) w w')(hle:(gi J ρ).le σ):
 Ext a a ρ (cC ρ σ)/\jh σ (cC ρ σ)/\Rel B (cC ρ σ) h w'/\cw B w w':=by
 have hold:∀k x,top<=k->ρ k=some x->σ k=some x:=fun k x hk e=>hle k x (by rw[sH ht hk];exact e);have hl:ρ.le<|cC ρ σ:=by
  intro k x e;unfold cC;by_cases hk:top<=k
  ·rw[if_pos hk];exact hold k x hk e
  ·rw[if_neg hk];exact e
 have cL:∀k,k<top->cC ρ σ k=ρ k:=fun k hk=>by unfold cC;rw[if_neg aj]
 have Bp:cw B w w':=⟨q4.os,q4.tape,q4.output,q4.size,fun k hk _=>q4.block k hk (by show ¬(w.heap.size<=k);omega)⟩;have JK:∀b,b<w.heap.size->w'.heap[b]? =w.heap[b]? :=fun b hb=>q4.block b hb (by show ¬(w.heap.size<=b);omega);refine⟨⟨hl,fun k hk _=>cL k hk⟩,fun k x hk e=>by unfold cC;rw[if_pos hk];exact e,⟨?_,?_,?_,fun k hk=>r.size k<|Nat.le_trans q4.size hk,r.lone,?_,r.tk.of hl (fun _ _ _ e _=>e) q4.size (fun b hb _=>JK b hb) (fun b1 _ hn m o N hm ho hr hb=>hn m o N hm ho hr (by rw[cL m hm] at hb;exact hb)) (fun j x sh hx _ e=>by
  unfold cC;rw[if_pos<|gb _ _ _];refine Classical.byContradiction fun q=>?_;rcases(q3.fz j x sh q).1 with z|z
  ·exact z e
  ·exact absurd hx (by have z:w.heap.size<=x:=z;omega))⟩,Bp⟩
 ·intro n o hn ho;obtain⟨b,N,o',h1,h2,h3,h5⟩:=r.is n o hn ho;exact⟨b,N,o',(cL n hn).trans h1,(JK b<|ib h2).trans h2,h3.mono hl,h5⟩
 ·intro n m o p b N M hn hm h1 h2 cP e1 e2;rw[cL n hn] at e1;rw[cL m hm] at e2;exact r.one n m o p b N M hn hm h1 h2 cP e1 e2
 ·intro n m es ex left cur hn ho;obtain⟨hm,fq,b,N,bm,M,l,bp,seen,h1,h2,h3,h5,h6⟩:=r.iter n m es ex left cur hn ho;have u:mT ρ w' n m es ex left cur:=⟨b,N,bm,M,l,bp,seen,h1,h2,(JK b<|ib h3).trans h3,(JK bm<|ib h5).trans h5,h6⟩;exact⟨hm,fq,u.mono hl⟩
 ·intro n b sh e;have e:σ (hn n b sh)≠none:=by unfold cC at e;rw[if_pos<|gb _ _ _] at e;exact e
  obtain⟨g0,l,c,e',fr,g1,g2,_,g4⟩:=q3.fz n b sh e;have gG:(gm σ).le<|gm<|cC ρ σ:=by
   intro k x q;unfold gm at q ⊢;split at q
   ·rename_i hk;rw[if_pos hk];unfold cC;rw[if_pos hk];exact q
   ·cases q
  have mF:∀i x,l[i]? =some x->∃v,c[sh+i]? =some v/\VR (gm<|cC ρ σ) x v/\x.bR=true:=fun i x hx=>by obtain⟨v,k1,k2,k3⟩:=g4 i x hx;exact⟨v,k1,VR.mono gG _ _ k2,k3⟩
  by_cases q:ρ (hn n b sh)≠none
  ·obtain⟨z0,l',c',e2,ks,z1,z2,z3,_⟩:=r.fz n b sh q;refine⟨z0,l,c,e',fr,g1,g2,fun m o N hm ho hr hb=>?_,mF⟩;rw[cL m hm] at hb;exact z3 m o N hm ho hr hb
  ·have hb:w.heap.size<=b:=g0.resolve_left q;refine⟨.inr<|r.size b hb,l,c,e',fr,g1,g2,fun m o N hm ho hr fN=>?_,mF⟩;rw[cL m hm] at fN;obtain⟨b1,N1,o1,h1,h2,_⟩:=r.is m o hm ho;rw[fN] at h1;cases h1;have:=ib h2;omega
noncomputable section
def ba(val:List AV->Option AV)(args:List AV):Option AV:=match args.all AV.hi with
 |true=>(val args).bind fun v=>match v.hi with
  |true=>some v
  |false=>none
 |false=>none
end
theorem eP{val:List AV->Option AV}(h:val args=some v)(ha:args.all AV.hi=true)(hv:v.hi=true):ba val args=some v:=by unfold ba;rw[ha,h];simp only[Option.bind_some,hv]
theorem abW{val:List AV->Option AV}(h:ba val args=some v):val args=some v/\args.all AV.hi=true/\v.hi=true:=by
 unfold ba at h;split at h
 ·rename_i ha;cases e:val args with
  |none=>rw[e] at h;cases h
  |some u=>
   rw[e] at h;simp only[Option.bind_some] at h;split at h
   ·rename_i hu;injection h with h;subst h;exact⟨rfl,ha,hu⟩
   ·cases h
 ·cases h
theorem aaL{val:List AV->Option AV}{YG:aK}{s:AS}(h:ba val args=some v)(hc:pK J h0 ns s=true):pw J ns h0 val YG args s= .ok v (dB J h0 ns s):=by obtain⟨h1,h2,h3⟩:=abW h;unfold pw;rw[h2,dq,M.bK<|xg hc,h1,bQ,h3,dq];rfl
end Go.Rn
namespace Go.Rn
open Go.RowKit
variable {n:Nat} {o:Option ae}
noncomputable def kZ(n:Nat)(o:Option ae):M Unit:=fun s=>
 @AS.rec (fun _=>R Unit) (fun h nx mark rd wr=>
  @Bool.rec (fun _=>R Unit) .bad
   (@Option.rec ae (fun _=>R Unit) .bad
    (fun p=> @Bool.rec (fun _=>R Unit)
     (@Bool.rec (fun _=>R Unit) (.ok () ⟨h.put n o,nx,mark,rd,wr⟩) (.ok () ⟨h.put n o,nx,mark,n::rd,n::wr⟩)<|Nat.blt n mark)
     .bad (!p.kN))
    (h.get n))
   (and (Nat.blt n nx)<|Nat.blt n top)) s
theorem Uu{u:Unit}{s s1:AS}(h:kZ n o s= .ok u s1):
 n<s.nx/\n<top/\(∃p,s.h.get n=some p/\(!p.kN)=false)/\s1=if n<s.mark then{s with h:=s.h.put n o,rd:=n::s.rd,wr:=n::s.wr} else{s with h:=s.h.put n o}:=by
 obtain⟨hh,nx,mark,rd,wr⟩:=s;have e:kZ n o ⟨hh,nx,mark,rd,wr⟩= @Bool.rec (fun _=>R Unit) .bad
  (@Option.rec ae (fun _=>R Unit) .bad
   (fun p=> @Bool.rec (fun _=>R Unit)
    (@Bool.rec (fun _=>R Unit) (.ok () ⟨hh.put n o,nx,mark,rd,wr⟩) (.ok () ⟨hh.put n o,nx,mark,n::rd,n::wr⟩)<|Nat.blt n mark)
    .bad (!p.kN))
   (hh.get n))
  (and (Nat.blt n nx)<|Nat.blt n top):=rfl
 rw[e] at h;cases hb:and (Nat.blt n nx) (Nat.blt n top) with
 |false=>rw[hb] at h;cases h
 |true=>
  rw[hb] at h;have fN:=Bool.and_eq_true_iff.1 hb;rw[blt_eq,blt_eq] at fN;cases hg:hh.get n with
  |none=>rw[hg] at h;cases h
  |some p=>
   rw[hg] at h;cases hr:(!p.kN) with
   |true=>
    have h': @Bool.rec (fun _=>R Unit)
     (@Bool.rec (fun _=>R Unit) (.ok () ⟨hh.put n o,nx,mark,rd,wr⟩) (.ok () ⟨hh.put n o,nx,mark,n::rd,n::wr⟩)<|Nat.blt n mark)
     .bad (!p.kN)= .ok u s1:=h
    rw[hr] at h';cases h'
   |false=>
    have h': @Bool.rec (fun _=>R Unit)
     (@Bool.rec (fun _=>R Unit) (.ok () ⟨hh.put n o,nx,mark,rd,wr⟩) (.ok () ⟨hh.put n o,nx,mark,n::rd,n::wr⟩)<|Nat.blt n mark)
     .bad (!p.kN)= .ok u s1:=h
    rw[hr] at h';refine⟨fN.1,fN.2,⟨p,by first|exact hg|rfl,hr⟩,?_⟩;have ud: @Bool.rec (fun _=>R Unit) (.ok () ⟨hh.put n o,nx,mark,rd,wr⟩) (.ok () ⟨hh.put n o,nx,mark,n::rd,n::wr⟩) (Nat.blt n mark)= .ok u s1:=h';rw[yI] at ud;by_cases e:n<mark
    ·rw[if_pos e] at ud;injection ud with _ h3;simp[e, ←h3]
    ·rw[if_neg e] at ud;injection ud with _ h3;simp[e, ←h3]
theorem Vq{s:AS}{p:ae}(h1:n<s.nx)(h2:n<top)(h3:s.h.get n=some p)(h4:(!p.kN)=false):
 kZ n o s= .ok () (if n<s.mark then{s with h:=s.h.put n o,rd:=n::s.rd,wr:=n::s.wr} else{s with h:=s.h.put n o}):=by
 obtain⟨hh,nx,mark,rd,wr⟩:=s;have e:kZ n o ⟨hh,nx,mark,rd,wr⟩= @Bool.rec (fun _=>R Unit) .bad
  (@Option.rec ae (fun _=>R Unit) .bad
   (fun p=> @Bool.rec (fun _=>R Unit)
    (@Bool.rec (fun _=>R Unit) (.ok () ⟨hh.put n o,nx,mark,rd,wr⟩) (.ok () ⟨hh.put n o,nx,mark,n::rd,n::wr⟩)<|Nat.blt n mark)
    .bad (!p.kN))
   (hh.get n))
  (and (Nat.blt n nx)<|Nat.blt n top):=rfl
 have hb:and (Nat.blt n nx) (Nat.blt n top)=true:=Bool.and_eq_true_iff.2 ⟨by rw[blt_eq];exact h1,by rw[blt_eq];exact h2⟩;have hg:hh.get n=some p:=h3;rw[e,hb,hg];show @Bool.rec (fun _=>R Unit) (@Bool.rec (fun _=>R Unit) (.ok () ⟨hh.put n o,nx,mark,rd,wr⟩) (.ok () ⟨hh.put n o,nx,mark,n::rd,n::wr⟩)<|Nat.blt n mark) .bad (!p.kN)=_;rw[h4];show @Bool.rec (fun _=>R Unit) (.ok () ⟨hh.put n o,nx,mark,rd,wr⟩) (.ok () ⟨hh.put n o,nx,mark,n::rd,n::wr⟩) (Nat.blt n mark)=_;rw[yI];by_cases e:n<mark<;>simp[e]
theorem YF.kZ(n:Nat)(o:Option ae):YF<|kZ n o:=by
 intro s v s1 fi h;obtain⟨h1,ht,⟨p,h2,h3⟩,rfl⟩:=Uu h;by_cases e:n<s.mark
 ·rw[if_pos e];refine⟨[n],[n],⟨rfl,rfl,Nat.le_refl _,fi.nx,rfl,fun k hk hn=>?_,fun _ h=>h,fun k hk gq=>?_⟩,fun A m0 t ag hA=>?_⟩
  ·show(s.h.put n o).get k=_;rw[Tr.da _ _ _ _ ht (by have:=fi.mark;have:=fi.nx;omega),if_neg<|by simpa using hn]
  ·show(s.h.put n o).get k=_;have:s.nx<=k:=hk;rw[Tr.da _ _ _ _ ht gq,if_neg aj]
  ·have hq:A n\/m0<=n:=by
    by_cases q:n<m0
    ·exact .inl<|hA n jF q
    ·exact .inr aj
   have hg:=ag.is n h1 hq;have hr:=Vq (o:=o) (s:=t) (n:=n) (p:=p) DZ ht D0 h3;rw[←ag.mark,if_pos e] at hr;refine⟨_,hr,⟨ag.nx,by first|exact ag.mark|rfl,ag.low,fun k hk hq=>?_⟩,rfl,rfl,fun k hk hn=>?_,fun k hk gq=>?_⟩
   ·show(s.h.put n o).get k=(t.h.put n o).get k;have zG:k<s.nx:=hk;have:=fi.nx;rw[Tr.da _ _ _ _ ht aj,Tr.da _ _ _ _ ht aj];by_cases q:k=n
    ·simp[q]
    ·rw[if_neg q,if_neg q];exact ag.is k hk hq
   ·show(t.h.put n o).get k=_;have:=fi.mark;have:=fi.nx;have:=ag.low;rw[Tr.da _ _ _ _ ht aj,if_neg<|by simpa using hn]
   ·show(t.h.put n o).get k=_;have:s.nx<=k:=hk;rw[Tr.da _ _ _ _ ht gq,if_neg aj]
 ·rw[if_neg e];refine⟨[],[],⟨rfl,rfl,Nat.le_refl _,fi.nx,rfl,fun k hk hn=>?_,fun _ h=>h,fun k hk gq=>?_⟩,fun A m0 t ag hA=>?_⟩
  ·show(s.h.put n o).get k=_;have:=fi.mark;have:=fi.nx;rw[Tr.da _ _ _ _ ht aj,if_neg aj]
  ·show(s.h.put n o).get k=_;have:s.nx<=k:=hk;rw[Tr.da _ _ _ _ ht gq,if_neg aj]
  ·have hg:=ag.is n h1<|.inr<|Nat.le_trans ag.low aj;have hr:=Vq (o:=o) (s:=t) (n:=n) (p:=p) DZ ht D0 h3;rw[←ag.mark,if_neg e] at hr;refine⟨_,hr,⟨ag.nx,by first|exact ag.mark|rfl,ag.low,fun k hk hq=>?_⟩,rfl,rfl,fun k hk hn=>?_,fun k hk gq=>?_⟩
   ·show(s.h.put n o).get k=(t.h.put n o).get k;have zG:k<s.nx:=hk;have:=fi.nx;rw[Tr.da _ _ _ _ ht aj,Tr.da _ _ _ _ ht aj];by_cases q:k=n
    ·simp[q]
    ·rw[if_neg q,if_neg q];exact ag.is k hk hq
   ·show(t.h.put n o).get k=_;have:=fi.mark;have:=fi.nx;have:=ag.low;rw[Tr.da _ _ _ _ ht aj,if_neg aj]
   ·show(t.h.put n o).get k=_;have:s.nx<=k:=hk;rw[Tr.da _ _ _ _ ht gq,if_neg aj]
section
variable {P:Program} {B:aJ} {ρ:Ren} {w:World} {s s1 s2:AS} {YG:aK}
theorem au.FB{pO:Nat}(hP:bS P){g:FuncId}{fn:Func}{body:Code}{args:List AV}{vs:Array Value}{R:AV->AS->Prop}(cj:P.funcs[g]? =some fn)(ct:fn.body=some body)(oS:max fn.ntmps args.length<=top)(H:au P B pO (Fin P fn.results.toList R) ⟨g,dt args,max fn.ntmps args.length,[.code body],[],none⟩ s)(fi:bB s)(r:Rel B ρ s.h w)(hg:gC ρ)(hf:∀k,s.nx<=k->k<top->ρ k=none)(hv:ay ρ args vs.toList):
 Calls P g vs w fun e w'=>∃v x s3,e= .returned v/\R x s3/\bB s3/\∃σ,(∀k,k<pO->k<top->σ k=ρ k)/\(∀k x,top<=k->ρ k=some x->σ k=some x)/\VR σ x v/\Rel B σ s3.h w'/\cw B w w':=by
 intro cs;let b:Frame:={(default:Frame) with fn:=g,kind:=.normal,roundOf:=none};let a:Act:={tmps:=vs++Array.replicate (fn.ntmps - vs.size) undef,defers:=[]};have xf:Frame.enter P g vs .normal=b.atR a [.code body]:=by simp[Frame.enter,Frame.atR,cj,ct,b,a]
 have bC:Fr ρ ⟨g,dt args,max fn.ntmps args.length,[.code body],[],none⟩ b a:=⟨rfl,rfl,trivial,rfl,.cons (hP.code g fn body cj ct) .nil⟩;have ax:At B ρ s (max fn.ntmps args.length) (dt args) w a:=⟨Ht hv _ oS,r,hg,oS,fi⟩;obtain⟨fr,j,s2,σ,a',w',⟨x,s3,pI,hR⟩,en,e0,GY,e1,e2,e3,e4,e5,e6,e7,e8⟩:=H ρ w b a cs bC ax hf;have OZ:finish P fn.results.toList fr j s2= .ok x s3:=by rw[EM];exact pI
 have zP:bB s2:=e2.cm;obtain⟨hj,u2,s4,rs,h7,h9,hx⟩:=LX OZ;have o7:bB s4:=(YF.qT _).cm zP h7;have pR:Leaves j fr.todo:=e7;obtain⟨d1,d2,w2,d3,d4,d5⟩:=Hs (P:=P) (fr:=b) (cs:=cs) zP e2.rel e3 h7;obtain⟨f1,f2,us,f3,f4⟩:=Ho (P:=P) (w:=w2) e2.tr o7 d3 h9;have jo:bB s3:=(YF.sr P fr.tmps _).cm o7 h9;have Gh:Steps P (lone (b.atR a' fr.todo) cs w')<|lone {b.atR a' fr.todo with mode:=.returning} cs w':=by
  rcases hj with rfl|rfl
  ·have e:fr.todo=[]:=pR;rw[e];exact .one<|stepR_end rfl
  ·obtain⟨k,e⟩:=pR;rw[e];exact .one<|stepR_ret rfl
 have xy:=d5 {b.atR a' fr.todo with mode:=.returning} cs jF rfl;have lA:(results fn a'.tmps).run P w2= .ok (oq us) w2:=by
  unfold results;rw[Array.mapM_eq_mapM_toList];simp only[Sem.run_bind,map_eq_pure_bind,Sem.run_pure];refine Eq.trans (congrArg (fun r:Result (List Value)=>(r.andThen fun a w'=>Result.ok a.toArray w').andThen fun a w'=>Result.ok (if h:a.size=1 then a[0] else Value.tuple a) w') f3) ?_;have:∀l:List Value,(Result.ok (if h:l.toArray.size=1 then l.toArray[0] else Value.tuple l.toArray) w2:Result Value)= .ok (oq l) w2:=by
   intro l
   match l with
   |[]=>rfl
   |[v]=>rfl
   |v::v2::l=>simp[oq]
  exact this us
 refine⟨.returned<|oq us,w2,{b.atR a' fr.todo with mode:=.returning,defers:=[]},⟨_,x,s3,rfl,hR,jo,σ,e0,GY,?_⟩,?_,rfl,?_⟩
 ·exact⟨by rw[hx];exact Mn f4,by rw[f1];exact d3,e4.trans d4⟩
 ·rw[xf];exact Steps.trans e8<|Steps.trans Gh xy
 ·exact⟨rfl,rfl,rfl,fn,cj,lA⟩
end
abbrev TX:=Nat->AV->List (Nat×ae)->Prop
def xV(loc ρ:Ren):Ren:=fun m=>if top<=m then ρ m else loc m
theorem aaM{loc ρ σ:Ren}(h:∀m x,top<=m->ρ m=some x->σ m=some x):(xV loc ρ).le<|xV loc σ:=by
 intro k x e;unfold xV at e ⊢;split at e
 ·rename_i q;rw[if_pos q];exact h k x q e
 ·rename_i q;rw[if_neg q];exact e
inductive nH (X:TX) (J:Nat):Nat->AV->Ren->World->Nat->(Nat->Prop)->Prop where
 | mk {k:Nat} {v:AV} {ρ:Ren} {w:World} {b:Nat} {H:Nat->Prop} (L:List<|Nat×ae) (loc:Ren) (bl:Nat->Nat) (H1:Nat->Nat->Prop) (N0:Nat)
   (hx:X k v L) (root:loc J=some (b,N0)) (low:∀m,m<J->loc m=none)
   (is:∀m o,(m,o)∈L->∃N o',loc m=some (bl m,N)/\w.heap[bl m]? =some o'/\OR (xV loc ρ) N o o'/\H (bl m))
   (one:∀m n o p,(m,o)∈L->(n,p)∈L->bl m=bl n->m=n)
   (tok:∀m k' v',(m,ae.tok k' v')∈L->nH X J k' v' ρ w (bl m) (H1 m))
   (JL:∀m k' v',(m,ae.tok k' v')∈L->H1 m (bl m))
   (sub:∀m k' v',(m,ae.tok k' v')∈L->∀x,H1 m x->H x)
   (own:∀m k' v' n o,(m,ae.tok k' v')∈L->(n,o)∈L->o.kN=false->¬H1 m (bl n))
   (apart:∀m k' v' n KU vY x,(m,ae.tok k' v')∈L->(n,ae.tok KU vY)∈L->m≠n->H1 m x->¬H1 n x):nH X J k v ρ w b H
theorem nH.mono{X:TX}{J k:Nat}{v:AV}{ρ:Ren}{w:World}{b:Nat}{H:Nat->Prop}(h:nH X J k v ρ w b H):∀{σ:Ren} {w':World},(∀m x,top<=m->ρ m=some x->σ m=some x)->(∀x,H x->w'.heap[x]? =w.heap[x]?)->nH X J k v σ w' b H:=by
 induction h with
 |mk L loc bl H1 N0 hx root low is one tok JL sub own apart ih=>intro σ w' hm hw;refine .mk L loc bl H1 N0 hx root low (fun m o yj=>?_) one (fun m k' v' yj=>ih m k' v' yj hm fun x q=>hw x<|sub m k' v' yj x q) JL sub own apart;obtain⟨N,o',a1,a2,a3,a4⟩:=is m o yj;exact⟨N,o',a1,(hw _ a4).trans a2,a3.mono<|aaM hm,a4⟩
def lu(ns:List Nat)(o:ae):Prop:=∀(σ:Ren) (N:Nat) (o':Obj),OR σ N o o'->OR (fun m=>if top<=m\/m∈ns then σ m else none) N o o'
structure yk (X:TX) (J:Nat):Prop where
 nm:∀k v L,X k v L->∀p∈L,J<=p.1/\p.1<top/\(p.2.own=true\/p.2.kN=true)/\lu (L.map (·.1)) p.2
 root:∀k v L,X k v L->∃o,(J,o)∈L
theorem Mz:∀{L:List<|Nat×ae},(∀p∈L,p.1<n)->∀p∈aX L,p.1<n
 |[],_,p,hp=>by cases hp
 |a::l,h,p,hp=>by
  rcases List.mem_cons.1 hp with rfl|hp
  ·exact h a List.mem_cons_self
  ·exact Mz (fun q hq=>h q<|List.mem_cons_of_mem _ hq) p hp
end Go.Rn
