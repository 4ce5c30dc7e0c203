import Derived.Test.YthjiifomjmdjbaaGreatDoorRnGE
set_option maxRecDepth 100000
set_option maxHeartbeats 8000000
set_option linter.unusedSimpArgs false
set_option linter.unusedVariables false
namespace Go.Rn
open Go.RowKit
variable {v:AV} {n k J o off:Nat} {x:TypeId×Operand×Operand} {cs:List AV} {α:Type} {B:aJ} {rs:List ResultVar} {ik:IntKind} {cap:cL} {ag b:Bool} {a:Nat×Nat} {T A c X:Prop} {x':dt} {ty:TypeId} {sp:Sp} {l:List<|Nat×AV} {Q:Tr AV->List Nat->Option Code->AS->Prop} {F:Nat->Option (List AV)}
noncomputable section
inductive Pl where
 |no
 |st (k:Nat) (p:Pl)
 |rg (p:Pl)
 |go (n:Nat) (p:Pl)
 |en (p:Pl)
 |fk (p q:Pl)
 |vl (v:AV) (p:Pl)
 |kn (v:AV) (p:Pl)
 |kp (c:Prop) (d:Decidable c) (p q:Pl)
 |cu (v:AV) (s2:AS) (p:Pl)
 |cg (v:AV) (F:AS->AS) (Q:AS->Prop) (p:Pl)
 |ap (α:Type) (enc:α->List AV) (l:List α) (c:α) (p:Pl)
 |al (α:Type) (enc:α->List AV) (l L:List α) (p:Pl)
 |ix (p:Pl)
 |fF (p:Pl)
 |ld (cs:List AV) (p:Pl)
 |Xg (b:Bool) (p q:Pl)
 |fG (cs:List AV) (p:Pl)
 |l6 (o:ae) (p:Pl)
 |rm (p:Pl)
 |ls (l:List<|Nat×AV) (o:List<|Nat×Option ae) (nx:Nat) (p:Pl)
 |rn (l0:List<|Nat×AV) (o0:List<|Nat×Option ae) (l:List<|Nat×AV) (o:List<|Nat×Option ae) (bQ nx:Nat) (p:Pl)
 |bk (l:List<|Nat×AV) (o:List<|Nat×Option ae) (nx:Nat) (p:Pl)
 |cy (v:AV) (s2:AS) (p:Pl)
 |GY (p:Pl)
 |kt (y v':AV) (p:Pl)
 |nt (v:Option AV) (res:AV->AV) (p:Pl)
 |Xh (m:List<|Int×Int) (p q:Pl)
 |KK (m:List<|Int×Int) (p:Pl)
 |so (p:Pl)
 |s3 (p:Pl)
 |ao (L1 L2 l:List AV) (p:Pl)
 |an (L1 L2 l:List AV) (p:Pl)
 |il (p:Pl)
 |rt (k:Nat) (p:Pl)
 |cut (p:Pl)
inductive KL where
 |fr (f nt:Nat) (K:List Item) (t:Tr AV) (s:AS)
 |rg (f nt:Nat) (K:List Item) (ops:Array Oper) (D:Option<|List dt) (i:Nat) (t:Tr AV) (s:AS)
structure Env where
 P:Program
 sp:Sp
 F:Nat->Option (List AV)
 uf:FuncId->Option (List AV->Option AV)
 jn:FuncId->Bool
 ck:AS->Bool
 cs:AS->AS
 lo:Nat
 fg:Bool
 tt:FuncId->Option (Nat×(AV->List AV->Option (AV×AV)))
 tn:FuncId->Option (Nat×(List AV->Option (Option AV×(AV->AV))))
 n0:Nat
def xM(nx:Nat)(l:List<|Nat×AV)(o:List<|Nat×Option ae):Prop:=∀r:Nat->Nat,(∀k,k<nx->r k=k)->(∀k,top<=k->r k=k)->(∀p∈l,bR r p.2 p.2)/\(∀p∈o,∀x,p.2=some x->rC r x x)
def jF(F:Nat->Option (List AV))(lo bQ:Nat)(l0:List<|Nat×AV)(o0:List<|Nat×Option ae)(l:List<|Nat×AV)(o:List<|Nat×Option ae)(nx:Nat):Prop:=
 ∃(fz:nJ) (r:Nat->Nat),(∀k,k<lo->r k=k)/\(∀k,nx<=k->k<top->bQ<=r k/\r k<top)/\(∀k,top<=k->r k=k)/\nx<=top/\(∀p∈l,p.1<top/\∃x,(p.1,x)∈l0/\qk fz r x p.2)/\
  (∀p∈o,p.1<top/\∀y,p.2=some y->r p.1<top/\y.o5=true/\∃x,(r p.1,some x)∈o0/\iv x y/\iE fz r x y)/\
  (∀p∈o,∀q∈o,p.2≠none->q.2≠none->r p.1=r q.1->p.1=q.1)/\
  (∀p∈fz,p.1<top/\F p.2.1=some p.2.2/\∃N t z,(p.1,some<|.cells N t z)∈o0/\∀i x,p.2.2[i]? =some x->i<N/\cellAt t z i=some x/\x.cj=true/\x.bZ=true)/\
  (∀p∈fz,∀q∈o,q.2≠none->r q.1≠p.1)
def Xi(n k:Nat)(v:AV)(s:AS):AS:=fE n (some<|.tok k v)<|aY n s
def nwS(k:Nat)(v:AV)(s:AS):AS:=⟨s.h.put s.nx<|some<|.tok k v,s.nx+1,s.mark,s.rd,s.wr⟩
def Xj(res:AV->AV)(s:AS):Option AV->AV
 |none=>res<|.ptr none
 |some _=>res<|.ptr<|some (s.nx,0)
def Xk(k:Nat)(s:AS):Option AV->AS
 |none=>s
 |some v=>nwS k v s
structure Env.Ok (E:Env):Prop where
 uf:∀g val args v s n,E.uf g=some val->val args=some v->E.ck s=true->bg E.P E.sp E.F (n+1) (.fn g) args s= .ok v (E.cs s)
 tt:∀g q m v rest y v' s n,E.tt g=some q->E.ck s=true->Nat.ble E.n0 m=true->Nat.blt m (E.cs s).nx=true->Nat.blt m top=true->(E.cs s).h.get m=some (.tok q.1 v)->q.2 v rest=some (y,v')->
  bg E.P E.sp E.F (n+1) (.fn g) (.ptr (some (m,0))::rest) s= .ok y (Xi m q.1 v'<|E.cs s)
 tn:∀g q args v res s n,E.tn g=some q->E.ck s=true->Nat.blt (E.cs s).nx top=true->q.2 args=some (v,res)->bg E.P E.sp E.F (n+1) (.fn g) args s= .ok (Xj res (E.cs s) v) (Xk q.1 (E.cs s) v)
 jn:∀g,E.jn g=true->E.sp g=some (fun _ args=>CE args)
def wo(o:Option α)(k:α->Prop):Prop:= @Option.rec α (fun _=>Prop) False k o
def wr(r:R α)(k:α->AS->Prop):Prop:= @R.rec α (fun _=>Prop) False k r
def wb(b:Bool)(k:Prop):Prop:= @Bool.rec (fun _=>Prop) False k b
def Kt:=AV->AS->Pl->Prop
def zx:=AF->AS->Pl->Prop
def Rec:=Nat->KL->Pl->List ResultVar->Kt->zx->Prop
def H5(op:Op):Option<|BinOp×TypeId×Operand×Operand×TypeId:=match op with
 | .binOp o ty x y yt=>some (o,ty,x,y,yt)
 |_=>none
def callParts(op:Op):Option<|Operand×Array Operand×Array TypeId:=match op with
 | .call ⟨.value fo,xs,ts⟩=>some (fo,xs,ts)
 |_=>none
def Pg(fi args ca:List AV):List AV:=match fi,ca with
 |[],[]=>args
 |_,_=>fi++args++ca
def Ph(v:AV):Option<|FuncId×List AV×List AV:=match v with
 | .func (.func g) fi ca=>some (g,fi,ca)
 |_=>none
def asInt(v:AV):Option<|IntKind×Int:=match v with
 | .int k n=>some (k,n)
 |_=>none
def asSlice(v:AV):Option<|Option (Nat×Nat)×Nat×cL:=match v with
 | .slice a n c=>some (a,n,c)
 |_=>none
def OO(x:br):Option<|Nat×Nat×List Item×Tr AV:=match x with
 | .go ⟨f,t,nt,K,[],none⟩=>some (f,nt,K,t)
 |_=>none
def OP(x:br):Option<|AF×Option Code:=match x with
 | .leave fr j=>some (fr,j)
 |_=>none
def Nu(K:List Item):Option<|Array Oper×Bool×List Item:=match K with
 | .code (.region _ ops d)::K=>some (ops,d,K)
 |_=>none
def Pj(o:BinOp)(a b:Int):Option Prop:=match o with
 | .lss=>some<|a<b
 | .leq=>some<|a<=b
 | .gtr=>some<|a>b
 | .geq=>some<|a>=b
 | .eql=>some<|a=b
 | .neq=>some<|a≠b
 |_=>none
def iw(D:Option<|List dt)(s:AS):AS:=match D with
 |none=>s
 |some _=>I3 s
def DT(D:Option<|List dt)(s s1:AS):AS:=match D with
 |none=>s1
 |some _=>Dt s s1
def Kb(D:Option<|List dt)(i:Nat)(s s1:AS):Option<|List dt:=match D with
 |none=>none
 |some acc=>some<|acc++[Ka i s s1]
def VG(d:Bool):Option<|List dt:=match d with
 |true=>some []
 |false=>none
def Pk(P:Program)(Ye:aI)(nt:Nat)(ops:Array Oper)(D:Option<|List dt)(i n:Nat)(t:Tr AV):M<|Tr AV×Option (List dt):=match D with
 |none=>fun s=>match o7 P Ye nt ops i n t s with
  | .ok t s=>.ok (t,none) s
  | .bad=>.bad
 |some acc=>fun s=>match tK P Ye nt ops i n t s with
  | .ok x s=>.ok (x.1,some<|acc++x.2) s
  | .bad=>.bad
def JI(ops:Array Oper)(D:Option<|List dt):Bool:=match D with
 |none=>true
 |some acc=>qj (Region.before ops) acc acc
def Du(n:Nat):Option Nat:=match n with
 |0=>none
 |n+1=>some n
def uP(t:Tr AV)(op:Op):Option<|FuncId×List AV:=match callParts op with
 |none=>none
 |some x=>match aG t x.1 with
  |none=>none
  |some fv=>match Ph fv with
   |none=>none
   |some g=>match jT (aG t) x.2.1.toList with
    |none=>none
    |some args=>some (g.1,Pg g.2.1 args g.2.2)
def Nv(t:Tr AV)(op:Op):Option<|Nat×List AV:=match callParts op with
 |none=>none
 |some x=>match aG t x.1 with
  |some (.yield l)=>(match jT (aG t) x.2.1.toList with
   |none=>none
   |some args=>some (l,args))
  |_=>none
def Fg(op:Op):Option<|TypeId×Operand×Operand:=match op with
 | .indexAddr ty x y=>some (ty,x,y)
 |_=>none
def EU(op:Op):Option<|TypeId×Operand:=match op with
 | .load ty a=>some (ty,a)
 |_=>none
def LO(op:Op):Option<|TypeId×Operand×Operand:=match op with
 | .store ty a x=>some (ty,a,x)
 |_=>none
def CH(op:Op):Option<|Operand×Operand×Array TypeId:=match op with
 | .call ⟨.builtin .append,xs,ts⟩=>match xs.toList with
  |[x,y]=>some (x,y,ts)
  |_=>none
 |_=>none
def Pm(v:AV):Option<|Nat×Nat×Nat×Nat:=match v with
 | .slice (some (n,0)) len (.ak m k)=>some (n,len,m,k)
 |_=>none
def NZ(v:AV):Option Nat:=match v with
 | .slice (some (m,0)) 1 (.known 1)=>some m
 |_=>none
def CI(P:Program)(ts:Array TypeId):Option<|Nat×Nat:=match ts[0]? with
 |some ty=>match P.underlying ty with
  |some (.slice e)=>match P.info? e with
   |some i=>match sw i&&(oZ P ts[1]? && !(Nat.beq i.bytes 0)) with
    |true=>some (i.size,i.bytes)
    |false=>none
   |none=>none
  |_=>none
 |none=>none
def JJ(v:AV):Option<|Nat×Nat×Nat:=match v with
 | .U n o k=>some (n,o,k)
 |_=>none
def N5(v:AV):Option<|Nat×Nat:=match v with
 | .pk n o=>some (n,o)
 |_=>none
def rf(P:Program)(ty:TypeId):Option Nat:=match P.underlying ty with
 |some (.slice e)=>eD P e
 |_=>none
def OQ(P:Program)(ty:TypeId):Option<|Nat×Nat:=match P.underlying ty with
 |some (.array n e)=>(eD P e).map fun k=>(n,k)
 |_=>none
def cellsOf(o:Option ae)(off k:Nat):Option<|List AV:=match o with
 |some (.cells m t z)=>(match Nat.ble (off+k) m with|true=>lr t z k off|false=>none)
 |_=>none
def xh(o:Option ae)(off:Nat)(l:List AV):Option ae:=match o with
 |some (.cells m t z)=>(match (Nat.ble (off+l.length) m&&(Nat.ble m top&&l.all AV.cj)) with|true=>some (.cells m (Tr.fill l off t) z)|false=>none)
 |_=>none
def cX(F:Nat->Option (List AV))(n off k:Nat):Option<|List AV:=match F n with
 |some l=>(match Nat.ble (off+k) l.length with|true=>some ((l.drop off).take k)|false=>none)
 |none=>none
def xj(k:Nat):Bool:=Nat.blt 0 k
def Gj(ag:Bool)(cs:List AV):Option AV:=match ag with
 |true=>some<|.agg cs
 |false=>one cs
def FA(P:Program)(ty:TypeId)(ag:Bool):Option Nat:=match ag with
 |true=>eD P ty
 |false=>some 1
def I4(o:Option ae):Bool:=match o with
 |none=>true
 |some o=>o.o5
def Kc(dr:Bool)(s:AS)(h:Tr ae)(R W:List Nat):AS:=match dr with
 |true=>⟨h,s.nx+1,s.mark,R,W⟩
 |false=>⟨h,s.nx+1,s.mark,s.rd,s.wr⟩
def xN(v:AV):Option<|Nat×Nat×cL:=match v with
 | .slice (some (n,0)) len cap=>some (n,len,cap)
 |_=>none
def LP(op:Op):Option<|TypeId×Operand×Option Operand×Option Operand:=match op with
 | .slice ty x lo hi none=>some (ty,x,lo,hi)
 |_=>none
def LD(op:Op):Option<|TypeId×Operand×Operand×Operand:=match op with
 | .slice ty x none (some hi) (some mx)=>some (ty,x,hi,mx)
 |_=>none
def kept(c:cL):Bool:=match c with
 | .lost=>false
 |_=>true
def C3(t:Tr AV)(o:Option Operand)(d:Int):Option Int:=match o with
 |none=>some d
 |some y=>match aG t y with
  |some (.int _ n)=>some n
  |_=>none
def alM(op:Op):Option<|TypeId×Operand×Operand:=match op with
 | .lookup ty x i false=>some (ty,x,i)
 |_=>none
def LQ(op:Op):Option<|TypeId×Operand×Operand:=match op with
 | .lookup ty x i true=>some (ty,x,i)
 |_=>none
def MV(op:Op):Option<|TypeId×Operand×Operand×Operand:=match op with
 | .mapUpdate ty x i y=>some (ty,x,i,y)
 |_=>none
def JK(v:AV):Option Nat:=match v with
 | .map (some n)=>some n
 |_=>none
def I5(P:Program)(ty:TypeId):Option<|TypeId×TypeId:=match P.underlying ty with
 |some (.map k e)=>some (k,e)
 |_=>none
def FY(k:IntKind):Bool:=match k with
 | .i64=>true
 |_=>false
def Pn(v:Option AV):Bool:=match v with
 |some (.int .i64 (.ofNat 0))=>true
 |_=>false
def Nw(l:List AV):Option<|Nat×List AV:=match l with
 | .ptr (some (n,0))::r=>some (n,r)
 |_=>none
def OS(o:Option ae):Option<|Nat×AV:=match o with
 |some (.tok k v)=>some (k,v)
 |_=>none
def Xl(E:Env)(dr:Bool)(ih:Rec)(n:Nat)(nx:AV->AS->Pl->Prop)(s:AS)(t:Tr AV)(op:Op)(p:Pl):Prop:=match p with
 | .fk p q=>wo (H5 op) fun x=>wo (aG t x.2.2.1) fun a=>wo (aG t x.2.2.2.1) fun b=>wo (asInt a) fun a=>wo (asInt b) fun b=>wb (decide<|a.1=b.1)<|wo (Pj x.1 a.2 b.2) fun c=>(c->nx (.bool true) s p)/\(¬c->nx (.bool false) s q)
 | .vl v p=>wr ((dG E.P op).val (bg E.P E.sp E.F n) t s) fun v' s1=>v'=v/\nx v s1 p
 | .kn v p=>wo (uP t op) fun x=>wo (Du n) fun _=>wo (E.uf x.1) fun val=>wb (E.ck s)<|val x.2=some v/\nx v (E.cs s) p
 | .kp c d p q=>wo (uP t op) fun x=>wo (Du n) fun _=>wo (E.uf x.1) fun val=>wb (E.ck s)<|val x.2=some (.bool<|@decide c d)/\(c->nx (.bool true) (E.cs s) p)/\(¬c->nx (.bool false) (E.cs s) q)
 | .cu v s2 p=>wo (uP t op) fun x=>bg E.P E.sp E.F n (.fn x.1) x.2 s= .ok v s2/\nx v s2 p
 | .cg v F Q p=>wo (uP t op) fun x=>(∀s,Q s->bg E.P E.sp E.F n (.fn x.1) x.2 s= .ok v (F s))/\Q s/\nx v (F s) p
 | .ap _ enc l c p=>wo (CH op) fun x=>wo (aG t x.1) fun a=>wo (Pm a) fun a=>wo (aG t x.2.1) fun b=>wo (NZ b) fun m=>wo (CI E.P x.2.2) fun i=>wb (Nat.beq a.2.2.2 i.1&&(xj i.1&&(Nat.blt a.1 s.nx&&(Nat.blt m s.nx&&(Nat.blt s.nx top&&(dr||Nat.beq s.mark 0))))))<|a.2.1=l.length/\a.2.2.1=l.length/\s.h.get a.1=some (aN enc l)/\s.h.get m=some (.cells (enc c).length (Tr.fill (enc c) 0 .nil) [])/\(∀x,(enc x).length=i.1/\(enc x).all AV.cj=true)/\2*(l.length+1)*i.2+4096*i.2<=room/\(l.length+1)*i.1<=top/\nx (.slice (some (s.nx,0)) (l++[c]).length<|.ak (l++[c]).length i.1) (Kc dr s ((s.h.put a.1 none).put s.nx<|some<|aN enc<|l++[c]) [a.1,m] [a.1]) p
 | .ix p=>wo (Fg op) fun x=>wo (aG t x.2.1) fun a=>wo (asSlice a) fun a=>wo a.1 fun ad=>wo (aG t x.2.2) fun z=>wo (asInt z) fun z=>wo (rf E.P x.1) fun K=>wb (Nat.beq ad.2 0)<|0<=z.2/\z.2<(Int.ofNat a.2.1)/\nx (.ptr<|some (ad.1,z.2.toNat*K)) s p
 | .fF p=>wo (Fg op) fun x=>wo (aG t x.2.1) fun a=>wo (JJ a) fun a=>wo (aG t x.2.2) fun z=>wo (asInt z) fun z=>wo (rf E.P x.1) fun K=>0<=z.2/\z.2<(Int.ofNat a.2.2)/\nx (.pk a.1<|a.2.1+z.2.toNat*K) s p
 | .ld cs p=>wo (EU op) fun x=>wo (aG t x.2) fun a=>wo (addrOf a) fun a=>wo (qw E.P x.1) fun ag=>wo (FA E.P x.1 ag) fun k=>wb (xj k)<|wb (Nat.blt a.1 s.nx)<|wo (Gj ag cs) fun v=>cellsOf (s.h.get a.1) a.2 k=some cs/\nx v (aY a.1 s) p
 | .Xg b p q=>wo (EU op) fun x=>wo (aG t x.2) fun a=>wo (addrOf a) fun a=>wo (qw E.P x.1) fun ag=>wb (!ag)<|wb (Nat.blt a.1 s.nx)<|cellsOf (s.h.get a.1) a.2 1=some [.bool b]/\(b=true->nx (.bool true) (aY a.1 s) p)/\(b=false->nx (.bool false) (aY a.1 s) q)
 | .fG cs p=>wo (EU op) fun x=>wo (aG t x.2) fun a=>wo (N5 a) fun a=>wo (qw E.P x.1) fun ag=>wo (eD E.P x.1) fun _=>wo (FA E.P x.1 ag) fun k=>wo (Gj ag cs) fun v=>top<=a.1/\cX E.F a.1 a.2 k=some cs/\nx v s p
 | .l6 o p=>wo (LO op) fun x=>wo (aG t x.2.1) fun a=>wo (addrOf a) fun a=>wo (aG t x.2.2) fun v=>wo (eD E.P x.1) fun k=>wb (Nat.beq v.cells.length k)<|wb (xj k)<|wb (Nat.blt a.1 s.nx)<|wb (Nat.blt a.1 top)<|xh (s.h.get a.1) a.2 v.cells=some o/\nx p8 (fE a.1 (some o)<|aY a.1 s) p
 | .rm p=>wo (H5 op) fun x=>wb (match x.1 with| .rem=>true|_=>false)<|wo (aG t x.2.2.1) fun a=>wo (aG t x.2.2.2.1) fun b=>wo (asInt a) fun a=>wo (asInt b) fun b=>wb (decide<|a.1=b.1)<|b.2≠0/\nx (.int a.1<|Int.tmod a.2 b.2) s p
 | .al _ enc l L p=>wo (CH op) fun x=>wo (aG t x.1) fun a=>wo (xN a) fun a=>wo (aG t x.2.1) fun b=>wo (JJ b) fun b=>wo (CI E.P x.2.2) fun i=>wb (OA i.1 a.2.1 a.2.2&&(Nat.blt a.1 s.nx&&(Nat.blt s.nx top&&(dr||Nat.beq s.mark 0))))<|a.2.1=l.length/\s.h.get a.1=some (aN enc l)/\top<=b.1/\cX E.F b.1 b.2.1 (b.2.2*i.1)=some (L.map enc).flatten/\b.2.2=L.length/\(∀x,(enc x).length=i.1/\(enc x).all AV.cj=true)/\2*(l.length+L.length)*i.2+4096*i.2<=room/\(l.length+L.length)*i.1<=top/\nx (.slice (some (s.nx,0)) (l++L).length<|.ak (l++L).length i.1) (Kc dr s ((s.h.put a.1 none).put s.nx<|some<|aN enc<|l++L) [a.1] [a.1]) p
 | .cy v s2 p=>wo (Nv t op) fun x=>bg E.P E.sp E.F n (.round x.1) x.2 s= .ok v s2/\nx v s2 p
 | .GY p=>wo (Fg op) fun x=>wo (aG t x.2.1) fun a=>wo (addrOf a) fun a=>wo (aG t x.2.2) fun z=>wo (asInt z) fun z=>wo (OQ E.P x.1) fun K=>0<=z.2/\z.2<(Int.ofNat K.1)/\nx (.ptr<|some (a.1,a.2+z.2.toNat*K.2)) s p
 | .kt y v' p=>wo (uP t op) fun x=>wo (Du n) fun _=>wo (E.tt x.1) fun q=>wo (Nw x.2) fun z=>wo (OS<|(E.cs s).h.get z.1) fun u=>wb (E.ck s&&(Nat.beq q.1 u.1&&(Nat.ble E.n0 z.1&&(Nat.blt z.1 (E.cs s).nx&&Nat.blt z.1 top))))<|q.2 u.2 z.2=some (y,v')/\nx y (Xi z.1 q.1 v'<|E.cs s) p
 | .nt v res p=>wo (uP t op) fun x=>wo (Du n) fun _=>wo (E.tn x.1) fun q=>wb (E.ck s&&Nat.blt (E.cs s).nx top)<|q.2 x.2=some (v,res)/\nx (Xj res (E.cs s) v) (Xk q.1 (E.cs s) v) p
 | .Xh m p q=>wo (LQ op) fun x=>wo (aG t x.2.1) fun a=>wo (JK a) fun n=>wo (aG t x.2.2) fun i=>wo (asInt i) fun i=>wo (I5 E.P x.1) fun y=>wb (oy E.P 10000 y.1 (.int .i64 i.2)&&(plainKey E.P y.1 (.int .i64 i.2)&&(FY i.1&&(Pn (qi E.P y.2)&&Nat.blt n s.nx))))<|s.h.get n=some (bG m)/\(lA m i.2=true->nx (.tuple [.int .i64<|getM m i.2,.bool true]) (aY n s) p)/\(lA m i.2=false->nx (.tuple [.int .i64 0,.bool false]) (aY n s) q)
 | .KK m p=>wo (MV op) fun x=>wo (aG t x.2.1) fun a=>wo (JK a) fun n=>wo (aG t x.2.2.1) fun i=>wo (asInt i) fun i=>wo (aG t x.2.2.2) fun v=>wo (asInt v) fun v=>wo (I5 E.P x.1) fun y=>wb (oy E.P 10000 y.1 (.int .i64 i.2)&&(plainKey E.P y.1 (.int .i64 i.2)&&(FY i.1&&(FY v.1&&(Nat.blt n s.nx&&Nat.blt n top)))))<|s.h.get n=some (bG m)/\nx (.tuple []) (fE n (some<|bG<|gA m i.2 v.2)<|aY n s) p
 | .so p=>wo (LP op) fun x=>wo (aG t x.2.1) fun a=>wo (xN a) fun a=>wo (rf E.P x.1) fun _=>wo (C3 t x.2.2.1 0) fun lo=>wo (C3 t x.2.2.2<|Int.ofNat a.2.1) fun hi=>wb (kept a.2.2)<|lo=0/\0<=hi/\hi<=Int.ofNat (iR a.2.1 a.2.2)/\nx (.slice (some (a.1,0)) hi.toNat a.2.2) s p
 | .s3 p=>wo (LD op) fun x=>wo (aG t x.2.1) fun a=>wo (xN a) fun a=>wo (rf E.P x.1) fun _=>wo (aG t x.2.2.1) fun hi=>wo (asInt hi) fun hi=>wo (aG t x.2.2.2) fun mx=>wo (asInt mx) fun mx=>wb (kept a.2.2)<|0<=hi.2/\hi.2<=mx.2/\mx.2<=Int.ofNat (iR a.2.1 a.2.2)/\nx (.slice (some (a.1,0)) hi.2.toNat<|.known mx.2.toNat) s p
 | .ao L1 L2 l p=>wo (CH op) fun x=>wo (aG t x.1) fun a=>wo (xN a) fun a=>wo (aG t x.2.1) fun b=>wo (xN b) fun b=>wo (CI E.P x.2.2) fun i=>wb (Nat.blt a.1 s.nx&&(Nat.blt b.1 s.nx&&(Nat.blt s.nx top&&(dr||Nat.beq s.mark 0))))
  (a.2.2= .known a.2.1/\1<=b.2.1/\s.h.get a.1=some (.cells L1.length (Tr.fill L1 0 .nil) [])/\s.h.get b.1=some (.cells L2.length (Tr.fill L2 0 .nil) [])/\L1.length<=top/\L2.length<=top/\a.2.1*i.1<=L1.length/\b.2.1*i.1<=L2.length/\
   L1.take (a.2.1*i.1)++L2.take (b.2.1*i.1)=l/\l.all AV.cj=true/\2*(a.2.1+b.2.1)*i.2+4096*i.2<=room/\l.length<=top/\
   nx (.slice (some (s.nx,0)) (a.2.1+b.2.1)<|.ak (a.2.1+b.2.1) i.1) (Kc dr s (s.h.put s.nx<|some<|.cells l.length (Tr.fill l 0 .nil) []) [a.1,b.1] []) p)
 | .an L1 L2 l p=>wo (CH op) fun x=>wo (aG t x.1) fun a=>wo (xN a) fun a=>wo (aG t x.2.1) fun b=>wo (xN b) fun b=>wo (CI E.P x.2.2) fun i=>wb (xj i.1&&(Nat.blt a.1 s.nx&&(Nat.blt b.1 s.nx&&Nat.blt s.nx top)))
  (a.2.2= .known a.2.1/\1<=a.2.1/\1<=b.2.1/\s.h.get a.1=some (.cells L1.length (Tr.fill L1 0 .nil) [])/\s.h.get b.1=some (.cells L2.length (Tr.fill L2 0 .nil) [])/\L1.length<=top/\L2.length<=top/\a.2.1*i.1<=L1.length/\b.2.1*i.1<=L2.length/\
   L1.take (a.2.1*i.1)++L2.take (b.2.1*i.1)=l/\l.all AV.cj=true/\2*(a.2.1+b.2.1)*i.2+4096*i.2<=room/\l.length<=top/\
   nx (.slice (some (s.nx,0)) (a.2.1+b.2.1)<|.ak (a.2.1+b.2.1) i.1) (pw (.cells l.length (Tr.fill l 0 .nil) [])<|aY a.1<|aY b.1 s) p)
 | .il p=>wo (uP t op) fun x=>wo (Du n) fun m=>match E.sp x.1 with
  |some _=>False
  |none=>wo (E.P.funcs[x.1]?) fun fn=>wo fn.body fun body=>wb (!(fn.name == "runtime.NumGoroutine"))<|wb (Nat.ble (max fn.ntmps x.2.length) top)<|ih m (.fr x.1 (max fn.ntmps x.2.length) [.code body] (eh x.2) s) p fn.results.toList nx fun _ _ _=>False
 |_=>False
def Qb(E:Env)(ih:Rec)(n:Nat)(c:KL)(p:Pl)(rs:List ResultVar)(k:Kt)(C:zx):Prop:=match c with
 | .fr f nt K t s=>match p with
  | .st j p=>wr (dW E.P (bg E.P E.sp E.F n) j ⟨f,t,nt,K,[],none⟩ s) fun x s1=>wo (OO x) fun y=>ih n (.fr y.1 y.2.1 y.2.2.1 y.2.2.2 s1) p rs k C
  | .rg p=>wo (Nu K) fun x=>ih n (.rg f nt x.2.2 x.1 (VG x.2.1) 0 t s) p rs k C
  | .rt j p=>wr (dW E.P (bg E.P E.sp E.F n) j ⟨f,t,nt,K,[],none⟩ s) fun x s1=>wo (OP x) fun y=>wr (finish E.P rs y.1 y.2 s1) fun v s2=>k v s2 p
  | .cut p=>C ⟨f,t,nt,K,[],none⟩ s p
  | .ls l o nx p=>wb (E.fg&&(pt top l&&(pt top o&&((Nat.ble s.nx nx&&Nat.ble nx top)&&o.all fun q=>I4 q.2))))<|l.map (fun q=>t.get q.1)=l.map (fun q=>some q.2)/\o.map (fun q=>s.h.get q.1)=o.map (fun q=>q.2)/\C ⟨f,aS l,nt,K,[],none⟩ (aq o nx) p
  | .rn l0 o0 l o bQ nx p=>wb (E.fg&&Nat.beq s.nx bQ)<|l0.map (fun q=>t.get q.1)=l0.map (fun q=>some q.2)/\o0.map (fun q=>s.h.get q.1)=o0.map (fun q=>q.2)/\jF E.F E.lo bQ l0 o0 l o nx/\C ⟨f,aS l,nt,K,[],none⟩ (aq o nx) p
  | .bk l o nx p=>wb (E.fg&&(pt top l&&(pt nx o&&((Nat.ble nx s.nx&&(Nat.blt s.nx top&&Nat.ble E.lo nx))&&o.all fun q=>I4 q.2))))<|l.map (fun q=>t.get q.1)=l.map (fun q=>some q.2)/\o.map (fun q=>s.h.get q.1)=o.map (fun q=>q.2)/\xM nx l o/\C ⟨f,aS l,nt,K,[],none⟩ (aq o nx) p
  |_=>False
 | .rg f nt K ops D i t s=>match p with
  | .go m p=>wb (Nat.ble (i+m) ops.size)<|wr (Pk E.P (bg E.P E.sp E.F n) nt ops D i m t s) fun x s1=>ih n (.rg f nt K ops x.2 (i+m) x.1 s1) p rs k C
  | .en p=>wb (Nat.ble ops.size i)<|wb (JI ops D)<|ih n (.fr f nt K t s) p rs k C
  |p=>wo (xI ops i) fun o=>wb (JH ops o.2.2 t)<|Xl E (D.isSome&&Nat.beq s.mark 0) ih n (fun v s1 p=>wo (jk nt t o.2.1 v) fun t1=>ih n (.rg f nt K ops (Kb D i (s) s1) (i+1) t1<|DT D s s1) p rs k C) (iw D s) t o.1 p
def wp(E:Env)(fuel:Nat):Rec:= @Nat.rec (fun _=>Rec) (fun _ _ _ _ _ _=>False) (fun _ ih=>Qb E ih) fuel
def lR(P:Program)(Ye:aI)(G:AF->AS->Prop)(f nt:Nat)(K:List Item)(ops:Array Oper)(D:Option<|List dt)(i:Nat)(t:Tr AV)(s:AS):Prop:=match D with
 |none=>xK P Ye G f nt K ops i t s
 |some acc=>qA P Ye G f nt K ops acc i t s
def Gof(P:Program)(Ye:aI)(G:AF->AS->Prop)(c:KL):Prop:=match c with
 | .fr f nt K t s=>G ⟨f,t,nt,K,[],none⟩ s
 | .rg f nt K ops D i t s=>lR P Ye G f nt K ops D i t s
end
theorem bc{o:Option α}{k:α->Prop}(h:wo o k):∃x,o=some x/\k x:=by
 cases o with
 |none=>exact h.elim
 |some x=>exact⟨x,rfl,h⟩
theorem FB{r:R α}{k:α->AS->Prop}(h:wr r k):∃x s,r= .ok x s/\k x s:=by
 cases r with
 |bad=>exact h.elim
 |ok x s=>exact⟨x,s,rfl,h⟩
theorem gS{k:Prop}(h:wb b k):b=true/\k:=by
 cases b with
 |false=>exact h.elim
 |true=>exact⟨rfl,h⟩
theorem acW(fi args ca:List AV):Pg fi args ca=fi++args++ca:=by
 unfold Pg;split
 ·simp
 ·rfl
theorem abC{g:FuncId×List AV×List AV}(h:Ph v=some g):v= .func (.func g.1) g.2.1 g.2.2:=by
 unfold Ph at h;split at h
 ·injection h with h;subst h;rfl
 ·cases h
theorem qS{x:IntKind×Int}(h:asInt v=some x):v= .int x.1 x.2:=by
 unfold asInt at h;split at h
 ·injection h with h;subst h;rfl
 ·cases h
theorem Za{x:Option (Nat×Nat)×Nat×cL}(h:asSlice v=some x):v= .slice x.1 x.2.1 x.2.2:=by
 unfold asSlice at h;split at h
 ·injection h with h;subst h;rfl
 ·cases h
theorem aar{x:br}{y:Nat×Nat×List Item×Tr AV}(h:OO x=some y):x= .go ⟨y.1,y.2.2.2,y.2.1,y.2.2.1,[],none⟩:=by
 unfold OO at h;split at h
 ·injection h with h;subst h;rfl
 ·cases h
theorem aas{x:br}{y:AF×Option Code}(h:OP x=some y):x= .leave y.1 y.2:=by
 unfold OP at h;split at h
 ·injection h with h;subst h;rfl
 ·cases h
theorem Zb{K:List Item}{y:Array Oper×Bool×List Item}(h:Nu K=some y):∃id,K= .code (.region id y.1 y.2.1)::y.2.2:=by
 unfold Nu at h;split at h
 ·injection h with h;subst h;exact⟨_,rfl⟩
 ·cases h
theorem EV{m:Nat}(h:Du n=some m):n=m+1:=by
 cases n with
 |zero=>cases h
 |succ n=>injection h with h;subst h;rfl
theorem Rc{op:Op}{x:BinOp×TypeId×Operand×Operand×TypeId}(h:H5 op=some x):op= .binOp x.1 x.2.1 x.2.2.1 x.2.2.2.1 x.2.2.2.2:=by
 unfold H5 at h;split at h
 ·injection h with h;subst h;rfl
 ·cases h
theorem ZD{t:Tr AV}{op:Op}{x:FuncId×List AV}(h:uP t op=some x):∃fo xs ts fi args ca,op= .call ⟨.value fo,xs,ts⟩/\aG t fo=some (.func (.func x.1) fi ca)/\jT (aG t) xs.toList=some args/\x.2=fi++args++ca:=by
 unfold uP at h;split at h
 ·cases h
 ·rename_i y hy;have eU:op= .call ⟨.value y.1,y.2.1,y.2.2⟩:=by
   unfold callParts at hy;split at hy
   ·injection hy with hy;subst hy;rfl
   ·cases hy
  split at h
  ·cases h
  ·rename_i fv hf;split at h
   ·cases h
   ·rename_i g hg;split at h
    ·cases h
    ·rename_i args ha;injection h with h;subst h
     exact⟨_,_,_,g.2.1,_,g.2.2,eU,by rw[hf,abC hg],ha,acW _ _ _⟩
section
variable {P:Program} {s s1:AS} {Ye:aI} {t t1:Tr AV} {ops:Array Oper} {f nt i:Nat} {K:List Item} {G:AF->AS->Prop} {D:Option<|List dt}
theorem acX{o:BinOp}{a b:Int}(h:Pj o a b=some c):∃r,Pd o a b=some r/\(r=true↔c):=by
 unfold Pj at h;split at h<;>first|(injection h with h;subst h)|cases h
 ·exact⟨_,rfl,by rw[decide_eq_true_iff]⟩
 ·exact⟨_,rfl,by rw[decide_eq_true_iff]⟩
 ·exact⟨_,rfl,by rw[decide_eq_true_iff]⟩
 ·exact⟨_,rfl,by rw[decide_eq_true_iff]⟩
 ·exact⟨_,rfl,by simp⟩
 ·exact⟨_,rfl,by simp⟩
theorem lR.op{op:Op}{d:Option Tmp}{g:Option<|Nat×Bool}(ho:xI ops i=some (op,d,g))(hw:JH ops g t=true)(h:(dG P op).val Ye t (iw D s)= .ok v s1)(hp:jk nt t d v=some t1)(H:lR P Ye G f nt K ops (Kb D i s s1) (i+1) t1<|DT D s s1):lR P Ye G f nt K ops D i t s:=by
 cases D with
 |none=>exact xK.step (Ud ho) (aey ho hw h hp) H
 |some acc=>exact qA.step (Ud ho) (acT ho hw h hp) H
theorem lR.go{x:Tr AV×Option (List dt)}(hn:Nat.ble (i+n) ops.size=true)(h:Pk P Ye nt ops D i n t s= .ok x s1)(H:lR P Ye G f nt K ops x.2 (i+n) x.1 s1):lR P Ye G f nt K ops D i t s:=by
 have hle:=aL.1 hn;unfold Pk at h;cases D with
 |none=>
  simp only at h;split at h
  ·rename_i t2 s2 e;injection h with h1 h2;subst h1;subst h2
   obtain⟨t3,s3,q1,q2⟩:=H;refine⟨t3,s3,?_,q2⟩;rw[show ops.size - i=n+(ops.size - (i+n)) by omega];exact RM e q1
  ·cases h
 |some acc=>
  simp only at h;split at h
  ·rename_i y s2 e;injection h with h1 h2;subst h1;subst h2
   obtain⟨t3,ms,s3,q1,q2,q3⟩:=H;refine⟨t3,_,s3,?_,by rw[←List.append_assoc];exact q2,q3⟩;rw[show ops.size - i=n+(ops.size - (i+n)) by omega];exact Ti rfl aj e q1
  ·cases h
theorem lR.done(h:Nat.ble ops.size i=true)(ho:JI ops D=true)(H:G ⟨f,t,nt,K,[],none⟩ s):lR P Ye G f nt K ops D i t s:=by
 cases D with
 |none=>exact xK.done h H
 |some acc=>exact qA.done (and_true.2 ⟨h,ho⟩) H
theorem lR.ah4(hG:Chunk P Ye G){id:Nat}{d:Bool}(H:lR P Ye G f nt K ops (VG d) 0 t s):G ⟨f,t,nt,.code (.region id ops d)::K,[],none⟩ s:=by
 cases d with
 |false=>exact Chunk.zR hG (c:=.region id ops false) rfl H
 |true=>exact Chunk.ah0 hG (c:=.region id ops true) rfl H
theorem ZE{op:Op}{x:Nat×List AV}(h:Nv t op=some x)(hv:Ye (.round x.1) x.2 s= .ok v s1):(dG P op).val Ye t s= .ok v s1:=by
 unfold Nv at h;split at h
 ·cases h
 ·rename_i y e;split at h
  ·rename_i l e2;split at h
   ·cases h
   ·rename_i args e3;injection h with h;subst h
    unfold callParts at e;split at e
    ·rename_i fo xs ts;injection e with e;subst e
     show tj fo xs.toList Ye t s=_;unfold tj;simp only at e2 e3;rw[e3,cf,e2,cf];show mX Ye (.yield l) args s=_;exact hv
    ·cases e
  ·cases h
theorem Ao{op:Op}{x:FuncId×List AV}(h:uP t op=some x)(hv:Ye (.fn x.1) x.2 s= .ok v s1):(dG P op).val Ye t s= .ok v s1:=by obtain⟨fo,xs,ts,fi,args,ca,rfl,h1,h2,h3⟩:=ZD h;show tj fo xs.toList Ye t s=_;unfold tj;rw[h2,cf,h1,cf];show Ye (.fn x.1) (fi++args++ca) s=_;rw[←h3];exact hv
end
theorem Ym{op:Op}(h:LQ op=some x):op= .lookup x.1 x.2.1 x.2.2 true:=by
 unfold LQ at h;split at h
 ·injection h with h;subst h;rfl
 ·cases h
theorem YM{op:Op}{x:TypeId×Operand×Operand×Operand}(h:MV op=some x):op= .mapUpdate x.1 x.2.1 x.2.2.1 x.2.2.2:=by
 unfold MV at h;split at h
 ·injection h with h;subst h;rfl
 ·cases h
theorem SC(h:JK v=some n):v= .map (some n):=by
 unfold JK at h;split at h
 ·injection h with h;subst h;rfl
 ·cases h
theorem RP{P:Program}{y:TypeId×TypeId}(h:I5 P ty=some y):P.underlying ty=some (.map y.1 y.2):=by
 unfold I5 at h;split at h
 ·rename_i e;injection h with h;subst h;exact e
 ·cases h
theorem Mi{k:IntKind}(h:FY k=true):k= .i64:=by
 unfold FY at h;split at h
 ·rfl
 ·cases h
theorem abD{v:Option AV}(h:Pn v=true):v=some (.int .i64 0):=by
 unfold Pn at h;split at h
 ·rfl
 ·cases h
theorem Lt{op:Op}(h:Fg op=some x):op= .indexAddr x.1 x.2.1 x.2.2:=by
 unfold Fg at h;split at h
 ·injection h with h;subst h;rfl
 ·cases h
theorem Hl{op:Op}{x:Operand×Operand×Array TypeId}(h:CH op=some x):op= .call ⟨.builtin .append, #[x.1,x.2.1],x.2.2⟩:=by
 unfold CH at h;split at h
 ·rename_i xs ts;split at h
  ·rename_i a b e;injection h with h;subst h
   have:xs= #[a,b]:=Array.ext' e;rw[this]
  ·cases h
 ·cases h
theorem abE{x:Nat×Nat×Nat×Nat}(h:Pm v=some x):v= .slice (some (x.1,0)) x.2.1 (.ak x.2.2.1 x.2.2.2):=by
 unfold Pm at h;split at h
 ·injection h with h;subst h;rfl
 ·cases h
theorem ZF{m:Nat}(h:NZ v=some m):v= .slice (some (m,0)) 1 (.known 1):=by
 unfold NZ at h;split at h
 ·injection h with h;subst h;rfl
 ·cases h
theorem Hm{P:Program}{ts:Array TypeId}{x:Nat×Nat}(h:CI P ts=some x):∃ty e,ts[0]? =some ty/\P.underlying ty=some (.slice e)/\(P.info? e).map (fun i=>(i.size,i.bytes,sw i))=some (x.1,x.2,true)/\oZ P ts[1]? =true/\Nat.beq x.2 0=false:=by
 unfold CI at h;split at h
 ·rename_i ty h1;split at h
  ·rename_i e h2;split at h
   ·rename_i i h3;split at h
    ·rename_i hb;injection h with h;subst h
     obtain⟨b1,b2⟩:=and_true.1 hb;obtain⟨b2,b3⟩:=and_true.1 b2;refine⟨ty,e,h1,h2,by rw[h3];simp only[Option.map_some,b1],b2,by simpa using b3⟩
    ·cases h
   ·cases h
  ·cases h
 ·cases h
theorem Hi{op:Op}{x:TypeId×Operand}(h:EU op=some x):op= .load x.1 x.2:=by
 unfold EU at h;split at h
 ·injection h with h;subst h;rfl
 ·cases h
theorem Yn{op:Op}(h:LO op=some x):op= .store x.1 x.2.1 x.2.2:=by
 unfold LO at h;split at h
 ·injection h with h;subst h;rfl
 ·cases h
theorem SD{x:Nat×Nat×Nat}(h:JJ v=some x):v= .U x.1 x.2.1 x.2.2:=by
 unfold JJ at h;split at h
 ·injection h with h;subst h;rfl
 ·cases h
theorem ZG{x:Nat×Nat}(h:N5 v=some x):v= .pk x.1 x.2:=by
 unfold N5 at h;split at h
 ·injection h with h;subst h;rfl
 ·cases h
theorem Hz{x:Nat×Nat}(h:addrOf v=some x):v= .ptr (some x):=by
 unfold addrOf at h;split at h
 ·injection h with h;subst h;rfl
 ·cases h
theorem Mj{z:Int}{len:Nat}(h1:0<=z)(h2:z<Int.ofNat len):within z len=some z.toNat:=by
 obtain⟨m,rfl⟩:=Int.eq_ofNat_of_zero_le h1;show within (Int.ofNat m) len=some m;have h2:(m:Int)<(len:Int):=h2;unfold within;have:Nat.blt m len=true:=by rw[blt_eq];omega
 simp only[this]
section
variable {P:Program} {s s1:AS} {Ye:aI} {t:Tr AV}
theorem af4{len K:Nat}{z:Int}(hx:aG t x.2.1=some (.slice (some (n,0)) len cap))(hz:aG t x.2.2=some (.int ik z))(hk:rf P x.1=some K)(h1:0<=z)(h2:z<Int.ofNat len):(dG P<|.indexAddr x.1 x.2.1 x.2.2).val Ye t s= .ok (.ptr<|some (n,z.toNat*K)) s:=by
 show pU P x.1 x.2.1 x.2.2 Ye t s=_;unfold pU;rw[hx,hz,cf,cf];unfold rf at hk;split at hk
 ·rename_i e he;show lift (indexAddr P x.1 (.slice (some (n,0)) len cap)<|.int ik z) s=_;unfold indexAddr intOf;simp only[he,hk,Mj h1 h2,Nat.zero_add];rfl
 ·cases hk
theorem aeK{K:Nat×Nat}{z:Int}(hx:aG t x.2.1=some (.ptr<|some (n,o)))(hz:aG t x.2.2=some (.int ik z))(hk:OQ P x.1=some K)(h1:0<=z)(h2:z<Int.ofNat K.1):(dG P<|.indexAddr x.1 x.2.1 x.2.2).val Ye t s= .ok (.ptr<|some (n,o+z.toNat*K.2)) s:=by
 show pU P x.1 x.2.1 x.2.2 Ye t s=_;unfold pU;rw[hx,hz,cf,cf];unfold OQ at hk;split at hk
 ·rename_i m e he;cases hs:eD P e with
  |none=>rw[hs] at hk;cases hk
  |some k=>
   rw[hs] at hk;injection hk with hk
   subst hk;show lift (indexAddr P x.1 (.ptr<|some (n,o))<|.int ik z) s=_;unfold indexAddr intOf;simp only[he,hs,Mj h1 h2];rfl
 ·cases hk
theorem aeL{len K:Nat}{z:Int}(hx:aG t x.2.1=some (.U n o len))(hz:aG t x.2.2=some (.int ik z))(hk:rf P x.1=some K)(h1:0<=z)(h2:z<Int.ofNat len):(dG P<|.indexAddr x.1 x.2.1 x.2.2).val Ye t s= .ok (.pk n<|o+z.toNat*K) s:=by
 show pU P x.1 x.2.1 x.2.2 Ye t s=_;unfold pU;rw[hx,hz,cf,cf];unfold rf at hk;split at hk
 ·rename_i e he;show lift (indexAddr P x.1 (.U n o len)<|.int ik z) s=_;unfold indexAddr intOf;simp only[he,hk,Mj h1 h2];rfl
 ·cases hk
theorem Re(hk:xj k=true)(hn:Nat.blt n s.nx=true)(h:cellsOf (s.h.get n) off k=some cs):je n off k s= .ok cs (aY n s):=by
 cases k with
 |zero=>cases hk
 |succ k=>
  unfold cellsOf at h;split at h
  ·rename_i m tt z hg;split at h
   ·rename_i hb;show((bp n).bind fun o=>match o with
     | .cells m t z=>aF (Nat.ble (off+(k+1)) m) <| lift (lr t z (k+1) off)
     | .ro m t=>aF (Nat.ble (off+(k+1)) m) <| lift (lr t [] (k+1) off)
     |_=>fail) s=_
    rw[M.bK<|me hn hg];show aF (Nat.ble (off+(k+1)) m) (lift<|lr tt z (k+1) off) (aY n s)=_;rw[hb,dB,h];rfl
   ·cases h
  ·cases h
theorem ZH(hg:qw P ty=some ag)(hw:FA P ty ag=some k)(hk:xj k=true)(hn:Nat.blt n s.nx=true)(hv:Gj ag cs=some v)(h:cellsOf (s.h.get n) off k=some cs):loadVar P ty n off s= .ok v (aY n s):=by
 unfold loadVar;rw[hg,cf];cases ag with
 |true=>
  have hw:eD P ty=some k:=hw;injection hv with hv;subst hv
  show(aA (eD P ty) fun k=>(je n off k).bind fun l=>M.pure<|AV.agg l) s=_;rw[hw,cf,M.bK<|Re hk hn h];rfl
 |false=>
  injection hw with hw;subst hw
  show((je n off 1).bind fun l=>lift<|one l) s=_;rw[M.bK<|Re hk hn h];show lift (one cs) (aY n s)=_;rw[show one cs=some v from hv];rfl
theorem OT{x:TypeId×Operand}(ha:aG t x.2=some (.ptr<|some a))(hg:qw P x.1=some ag)(hw:FA P x.1 ag=some k)(hk:xj k=true)(hn:Nat.blt a.1 s.nx=true)(hv:Gj ag cs=some v)(h:cellsOf (s.h.get a.1) a.2 k=some cs):(dG P<|.load x.1 x.2).val Ye t s= .ok v (aY a.1 s):=by show ti P x.1 x.2 Ye t s=_;unfold ti;rw[ha,cf];show loadVar P x.1 a.1 a.2 s=_;exact ZH hg hw hk hn hv h
theorem aeM{o:ae}(ha:aG t x.2.1=some (.ptr<|some a))(hv:aG t x.2.2=some v)(hk:eD P x.1=some k)(hl:Nat.beq v.cells.length k=true)(hp:xj k=true)(hn:Nat.blt a.1 s.nx=true)(ht:Nat.blt a.1 top=true)(h:xh (s.h.get a.1) a.2 v.cells=some o):(dG P<|.store x.1 x.2.1 x.2.2).val Ye t s= .ok p8 (fE a.1 (some o)<|aY a.1 s):=by
 show wW P x.1 x.2.1 x.2.2 Ye t s=_;unfold wW;rw[ha,cf];show aA (aG t x.2.2) (fun v=>(storeVar P x.1 a.1 a.2 v).bind fun _=>M.pure p8) s=_;rw[hv,cf];have hw:storeVar P x.1 a.1 a.2 v s= .ok () (fE a.1 (some o)<|aY a.1 s):=by
  unfold storeVar;rw[hk,cf,hl,dB];unfold xh at h;split at h
  ·rename_i m tt z hg;split at h
   ·rename_i hb;injection h with h;subst h
    cases hc:v.cells with
    |nil=>rw[hc] at hl;have:=Nat.eq_of_beq_eq_true hl;subst this;cases hp
    |cons y r=>
     rw[hc] at hb;show((bp a.1).bind fun o=>match o with
      | .cells m t z=>aF (and (Nat.ble (a.2+(r.length+1)) m)<|and (Nat.ble m top)<|(y::r).all AV.cj) <| bI a.1 (some<|.cells m (Tr.fill (y::r) a.2 t) z)
      |_=>fail) s=_
     rw[M.bK<|me hn hg];show aF (and (Nat.ble (a.2+(r.length+1)) m)<|and (Nat.ble m top)<|(y::r).all AV.cj) (bI a.1<|some<|.cells m (Tr.fill (y::r) a.2 tt) z) (aY a.1 s)=_;rw[show(and (Nat.ble (a.2+(r.length+1)) m)<|and (Nat.ble m top)<|(y::r).all AV.cj)=true from hb,dB];obtain⟨e1,e2,_⟩:=fR a.1 s;exact yH (p:=.cells m tt z) (by rw[e2];exact hn) (by rw[e1];exact hg) rfl ht
   ·cases h
  ·cases h
 rw[M.bK hw];rfl
theorem aeN{x:TypeId×Operand}(ha:aG t x.2=some (.pk a.1 a.2))(hg:qw P x.1=some ag){z:Nat}(hz:eD P x.1=some z)(hw:FA P x.1 ag=some k)(hv:Gj ag cs=some v)(ht:top<=a.1)(h:cX F a.1 a.2 k=some cs):(dG P<|.load x.1 x.2).val (bg P sp F n) t s= .ok v s:=by
 show ti P x.1 x.2 (bg P sp F n) t s=_;unfold ti;rw[ha,cf];show(match Nat.ble top a.1 with
  |true=>uI P x.1 (bg P sp F n) a.1 a.2
  |false=>wJ P x.1 a.1 a.2) s=_
 rw[aL.2 ht];have hr:∀k,cX F a.1 a.2 k=some cs->bg P sp F n (.row a.1 a.2 k) [] s= .ok (.agg cs) s:=by
  intro k h;have:qz F a.1 a.2 k s= .ok (.agg cs) s:=by
   unfold cX at h;unfold qz;cases e:F a.1 with
   |none=>rw[e] at h;cases h
   |some l=>
    rw[e] at h;simp only at h;split at h
    ·rename_i hb;injection h with h;subst h
     rw[cf,hb,dB];rfl
    ·cases h
  cases n<;>exact this
 show uI P x.1 (bg P sp F n) a.1 a.2 s=_;unfold uI;rw[hg,cf];rw[hz,cf];cases ag with
 |true=>
  have hw:eD P x.1=some k:=hw;rw[hz] at hw;injection hw with hw;subst hw
  injection hv with hv;subst hv
  show((bg P sp F n (.row a.1 a.2 z) []).bind fun v=>_) s=_;rw[M.bK<|hr z h];rfl
 |false=>
  injection hw with hw;subst hw
  show((bg P sp F n (.row a.1 a.2 1) []).bind fun v=>_) s=_;rw[M.bK<|hr 1 h];show lift (one cs) s=_;rw[show one cs=some v from hv];rfl
theorem af5{x:BinOp×TypeId×Operand×Operand×TypeId}{k:IntKind}{a b:Int}(ho:x.1= .rem)(hx:aG t x.2.2.1=some (.int k a))(hy:aG t x.2.2.2.1=some (.int k b))(hb:b≠0):(dG P<|.binOp x.1 x.2.1 x.2.2.1 x.2.2.2.1 x.2.2.2.2).val Ye t s= .ok (.int k<|Int.tmod a b) s:=by rw[ho];exact aex hx hy hb rfl
theorem MW:∀{l:List<|Nat×AV},l.map (fun q=>t.get q.1)=l.map (fun q=>some q.2)->xg t l
 |[],_=>trivial
 |p::l,h=>by simp only[List.map_cons,List.cons.injEq] at h;exact⟨h.1,MW h.2⟩
theorem Nx{h:Tr ae}:∀{o:List<|Nat×Option ae},o.map (fun q=>h.get q.1)=o.map (fun q=>q.2)->(o.all fun q=>I4 q.2)=true->xJ h o
 |[],_,_=>trivial
 |p::l,e,k=>by simp only[List.map_cons,List.cons.injEq] at e;rw[List.all_cons] at k;obtain⟨k1,k2⟩:=and_true.1 k;exact⟨⟨e.1,fun o ho=>by rw[ho] at k1;exact k1⟩,Nx e.2 k2⟩
end
def zV(m m':dt):Prop:=m.i=m'.i/\(∀n∈m.rd,n∈m'.rd)/\(∀n∈m.wr,n∈m'.wr)/\m.lo=m'.lo/\m.hi=m'.hi
def nf:List dt->List dt->Prop
 |[],[]=>True
 |x::l,y::m=>zV x y/\nf l m
 |_,_=>False
theorem zV.refl(m:dt):zV m m:=⟨rfl,fun _ h=>h,fun _ h=>h,rfl,rfl⟩
theorem nf.refl:∀l:List dt,nf l l
 |[]=>trivial
 |x::l=>⟨zV.refl x,nf.refl l⟩
theorem nf.app:∀{a a' b b':List dt},nf a a'->nf b b'->nf (a++b) (a'++b')
 |[],[],_,_,_,h=>h
 |_::_,_::_,_,_,h,k=>⟨h.1,nf.app h.2 k⟩
 |[],_::_,_,_,h,_=>h.elim
 |_::_,[],_,_,h,_=>h.elim
theorem Mk{lo hi:Nat}:∀{l:List Nat},zb lo hi l=true↔∃n∈l,lo<=n/\n<hi
 |[]=>by simp[zb]
 |x::l=>by
  have ih:=Mk (lo:=lo) (hi:=hi) (l:=l);unfold zb;cases q:(Nat.ble lo x&&Nat.blt x hi) with
  |true=>obtain⟨h1,h2⟩:=and_true.1 q;exact⟨fun _=>⟨x,List.mem_cons_self,aL.1 h1,(blt_eq _ _).mp h2⟩,fun _=>rfl⟩
  |false=>
   refine ih.trans ⟨fun⟨n,a,b⟩=>⟨n,List.mem_cons_of_mem _ a,b⟩,fun⟨n,a,b⟩=>?_⟩;rcases List.mem_cons.1 a with rfl|a
   ·exfalso;rw[show(Nat.ble lo n&&Nat.blt n hi)=true from and_true.2 ⟨aL.2 b.1,(blt_eq _ _).mpr b.2⟩] at q;cases q
   ·exact⟨n,a,b⟩
theorem Ml:∀{a b:List Nat},meets a b=true↔∃n∈a,n∈b
 |[],b=>by simp[meets]
 |x::a,b=>by
  have ih:=Ml (a:=a) (b:=b);unfold meets;cases q:vt x b with
  |true=>exact⟨fun _=>⟨x,List.mem_cons_self,Fb.1 q⟩,fun _=>rfl⟩
  |false=>
   refine ih.trans ⟨fun⟨n,h,k⟩=>⟨n,List.mem_cons_of_mem _ h,k⟩,fun⟨n,h,k⟩=>?_⟩;rcases List.mem_cons.1 h with rfl|h
   ·rw[Fb.2 k] at q;cases q
   ·exact⟨n,h,k⟩
theorem SE{m:Nat}{a b:List Nat}(h:∀k∈a,k∈b)(n:Nat)(hn:n∈below m a):n∈below m b:=by obtain⟨h1,h2⟩:=su.1 hn;exact su.2 ⟨h n h1,h2⟩
theorem HA(l:List Nat):below 0 l=[]:=rfl
theorem ZI{x y y':dt}(hx:zV x x')(hy:zV y y')(h:sO x' y'=true):sO x y=true:=by
 unfold sO at h ⊢;obtain⟨h1,h2⟩:=and_true.1 h;refine and_true.2 ⟨?_,?_⟩
 ·cases q:meets x.wr y.rd with
  |false=>rfl
  |true=>obtain⟨n,a,b⟩:=Ml.1 q;rw[Ml.2 ⟨n,hx.2.2.1 n a,hy.2.1 n b⟩] at h1;cases h1
 ·cases q:zb x.lo x.hi y.rd with
  |false=>rfl
  |true=>obtain⟨n,a,b⟩:=Mk.1 q;rw[hx.2.2.2.1,hx.2.2.2.2] at b;rw[Mk.2 ⟨n,hy.2.1 n a,b⟩] at h2;cases h2
theorem ZJ{x:dt}(hx:zV x x')(h:sP x'=true):sP x=true:=by
 unfold sP at h ⊢;cases e:x'.wr with
 |cons a l=>rw[e] at h;cases h
 |nil=>
  rw[e] at h;cases e2:x.wr with
  |nil=>rw[hx.2.2.2.1,hx.2.2.2.2];exact h
  |cons a l=>have:=hx.2.2.1 a (by rw[e2];exact List.mem_cons_self);rw[e] at this;cases this
theorem QX{b:Array Nat}{x x':dt}(hx:zV x x'):∀{l l':List dt},nf l l'->sr b x' l'=true->sr b x l=true
 |[],[],_,_=>rfl
 |[],_::_,h,_=>h.elim
 |_::_,[],h,_=>h.elim
 |y::l,y'::l',hl,h=>by
  unfold sr at h ⊢;cases q:(Nat.beq x'.i y'.i||(sO x' y'|| !loose b x'.i y'.i)) with
  |false=>rw[q] at h;cases h
  |true=>
   rw[q] at h;have:(Nat.beq x.i y.i||(sO x y|| !loose b x.i y.i))=true:=by
    rw[hx.1,hl.1.1];cases q1:Nat.beq x'.i y'.i with
    |true=>rfl
    |false=>
     rw[q1] at q;cases q2:sO x' y' with
     |true=>rw[ZI hx hl.1 q2];rfl
     |false=>
      rw[q2] at q;cases sO x y
      ·exact q
      ·rfl
   rw[this];exact QX hx hl.2 h
theorem SF{b:Array Nat}{all Po:List dt}(ha:nf all Po):∀{l l':List dt},nf l l'->qj b Po l'=true->qj b all l=true
 |[],[],_,_=>rfl
 |[],_::_,h,_=>h.elim
 |_::_,[],h,_=>h.elim
 |x::l,x'::l',hl,h=>by
  unfold qj at h ⊢;cases q:(sP x'||sr b x' Po) with
  |false=>rw[q] at h;cases h
  |true=>
   rw[q] at h;have:(sP x||sr b x all)=true:=by
    cases q1:sP x' with
    |true=>rw[ZJ hl.1 q1];rfl
    |false=>rw[q1] at q;rw[QX hl.1 ha q];cases sP x<;>rfl
   rw[this];exact SF ha hl.2 h
theorem qA.cover{P:Program}{Ye:aI}{G:AF->AS->Prop}{f nt:Nat}{K:List Item}{ops:Array Oper}{acc Pp:List dt}{i:Nat}{t:Tr AV}{s:AS}(h:nf acc Pp)(H:qA P Ye G f nt K ops Pp i t s):qA P Ye G f nt K ops acc i t s:=by obtain⟨t1,ms,s1,q1,q2,q3⟩:=H;exact⟨t1,ms,s1,q1,SF (h.app<|nf.refl ms) (h.app<|nf.refl ms) q2,q3⟩
theorem aat{B:Prop}(hy:b=true->A)(lY:b=false->B)(ha:b=true->A->X)(hb:b=false->B->X):X:=by
 cases b with
 |true=>exact ha rfl<|hy rfl
 |false=>exact hb rfl<|lY rfl
theorem abF{o:Option AV}{d:Decidable c}{B:Prop}(h:o=some (.bool<|@decide c d))(hy:c->A)(lY:¬c->B)(ha:o=some (.bool true)->A->X)(hb:o=some (.bool false)->B->X):X:=by
 by_cases q:c
 ·rw[decide_eq_true q] at h;exact ha h<|hy q
 ·rw[decide_eq_false q] at h;exact hb h<|lY q
theorem AA{x:Nat×Nat×cL}(h:xN v=some x):v= .slice (some (x.1,0)) x.2.1 x.2.2:=by
 unfold xN at h;split at h
 ·injection h with h;subst h;rfl
 ·cases h
theorem Yo{op:Op}{x:TypeId×Operand×Option Operand×Option Operand}(h:LP op=some x):op= .slice x.1 x.2.1 x.2.2.1 x.2.2.2 none:=by
 unfold LP at h;split at h
 ·injection h with h;subst h;rfl
 ·cases h
theorem Mm{i:Int}(h0:0<=i)(h1:i<(n:Int)):within i n=some i.toNat:=by
 obtain⟨k,rfl⟩:=Int.eq_ofNat_of_zero_le h0;have hk:k<n:=by omega
 show(match (Int.ofNat k) with| .ofNat k=>(match Nat.blt k n with|true=>some k|false=>none)| .negSucc _=>none)=some k;have:Nat.blt k n=true:=by rw[blt_eq];exact hk
 simp only[this]
theorem Rf{t:Tr AV}{o:Option Operand}{d v:Int}{tH:Nat}(h:C3 t o d=some v)(h0:0<=v)(h1:v<=(tH:Int)):∃y,opt (aG t) o=some y/\∀dn:Nat,(Int.ofNat dn=d)->bound y tH dn=some v.toNat:=by
 cases o with
 |none=>
  injection h with h;subst h
  exact⟨none,rfl,fun dn e=>by subst e;rfl⟩
 |some x=>
  unfold C3 at h;simp only at h;cases e:aG t x with
  |none=>rw[e] at h;cases h
  |some z=>
   rw[e] at h;cases z<;>simp only at h<;>first|(cases h;done)|skip
   rename_i k n;injection h with h;subst h
   refine⟨some<|.int k n,?_,fun dn _=>?_⟩
   ·show(match aG t x with|none=>none|some v=>some<|some v)=_;rw[e]
   ·show within n (tH+1)=_;exact Mm h0 aj
theorem Yg{op:Op}{x:TypeId×Operand×Operand×Operand}(h:LD op=some x):op= .slice x.1 x.2.1 none (some x.2.2.1) (some x.2.2.2):=by
 unfold LD at h;split at h
 ·injection h with h;subst h;rfl
 ·cases h
theorem af6{P:Program}{Ye:aI}{t:Tr AV}{s:AS}{x:TypeId×Operand×Option Operand×Option Operand}{len K:Nat}{hi:Int}(hx:aG t x.2.1=some (.slice (some (n,0)) len cap))(hk:rf P x.1=some K)(h1:C3 t x.2.2.1 0=some 0)(h2:C3 t x.2.2.2 (Int.ofNat len)=some hi)(hc:kept cap=true)(a1:0<=hi)(a2:hi<=Int.ofNat (iR len cap)):
 (dG P<|.slice x.1 x.2.1 x.2.2.1 x.2.2.2 none).val Ye t s= .ok (.slice (some (n,0)) hi.toNat cap) s:=by
 obtain⟨y1,e1,f1⟩:=Rf (tH:=hi.toNat) h1 aj aj;obtain⟨y2,e2,f2⟩:=Rf (tH:=iR len cap) h2 a1 a2;show sM P x.1 x.2.1 x.2.2.1 x.2.2.2 none Ye t s=_;unfold sM;rw[hx,cf,e1,cf,e2,cf];show lift (wG P x.1 (.slice (some (n,0)) len cap) y1 y2 none) s=_;have:wG P x.1 (.slice (some (n,0)) len cap) y1 y2 none=some (.slice (some (n,0)) hi.toNat cap):=by
  unfold rf at hk;split at hk<;>first|(cases hk;done)|skip
  rename_i e hu;unfold wG;rw[hu];have f1':=f1 0 rfl;simp only[hk,f2 len rfl];rw[f1'];cases cap with
  |known c=>
   show(match Nat.beq c 0 with
    |true=>some (AV.slice (some (n,0)) (hi.toNat - 0)<|.known<|c - 0)
    |false=>some<|AV.slice (some (n,0+0*K)) (hi.toNat - 0)<|.known<|c - 0)=_
   rw[Nat.zero_mul];cases Nat.beq c 0<;>rfl
  |ak b e=>rfl
  |lost=>cases hc
 rw[this];rfl
theorem af7{P:Program}{Ye:aI}{t:Tr AV}{s:AS}{x:TypeId×Operand×Operand×Operand}{len K:Nat}{hi mx:IntKind×Int}(hx:aG t x.2.1=some (.slice (some (n,0)) len cap))(hk:rf P x.1=some K)(h1:aG t x.2.2.1=some (.int hi.1 hi.2))(h2:aG t x.2.2.2=some (.int mx.1 mx.2))(hc:kept cap=true)(a1:0<=hi.2)(a2:hi.2<=mx.2)(a3:mx.2<=Int.ofNat (iR len cap)):
 (dG P<|.slice x.1 x.2.1 none (some x.2.2.1)<|some x.2.2.2).val Ye t s= .ok (.slice (some (n,0)) hi.2.toNat<|.known mx.2.toNat) s:=by
 show sM P x.1 x.2.1 none (some x.2.2.1) (some x.2.2.2) Ye t s=_;unfold sM;have o1:opt (aG t) (some x.2.2.1)=some (some<|.int hi.1 hi.2):=by show(match aG t x.2.2.1 with|none=>none|some v=>some<|some v)=_;rw[h1]
 have o2:opt (aG t) (some x.2.2.2)=some (some<|.int mx.1 mx.2):=by show(match aG t x.2.2.2 with|none=>none|some v=>some<|some v)=_;rw[h2]
 rw[hx,cf,show opt (aG t) none=some none from rfl,cf,o1,cf,o2,cf];show lift (wG P x.1 (.slice (some (n,0)) len cap) none (some<|.int hi.1 hi.2)<|some<|.int mx.1 mx.2) s=_;have b1:bound (some<|.int mx.1 mx.2) (iR len cap) 0=some mx.2.toNat:=Mm aj (by have:(Int.ofNat<|iR len cap)=((iR len cap:Nat):Int):=rfl;omega);have b2:bound (some<|.int hi.1 hi.2) mx.2.toNat 0=some hi.2.toNat:=Mm a1 aj;have:wG P x.1 (.slice (some (n,0)) len cap) none (some<|.int hi.1 hi.2) (some<|.int mx.1 mx.2)=some (.slice (some (n,0)) hi.2.toNat<|.known mx.2.toNat):=by
  unfold rf at hk;split at hk<;>first|(cases hk;done)|skip
  rename_i e hu;unfold wG;rw[hu];simp only[hk];have h3:slice3 K (some (n,0)) (iR len cap) none (some<|.int hi.1 hi.2) (.int mx.1 mx.2)=some (.slice (some (n,0)) hi.2.toNat<|.known mx.2.toNat):=by
   unfold slice3;rw[b1];simp only;rw[b2];show(match Nat.beq mx.2.toNat 0 with
    |true=>some (AV.slice (some (n,0)) (hi.2.toNat - 0)<|.known<|mx.2.toNat - 0)
    |false=>some<|AV.slice (some (n,0+0*K)) (hi.2.toNat - 0)<|.known<|mx.2.toNat - 0)=_
   rw[Nat.zero_mul];cases Nat.beq mx.2.toNat 0<;>rfl
  cases cap with
  |known c=>exact h3
  |ak b e=>exact h3
  |lost=>cases hc
 rw[this];rfl
theorem abG{P:Program}{m:Nat}{s:AS}(h:cX F n o k=some cs):bg P sp F m (.row n o k) [] s= .ok (.agg cs) s:=by
 have:qz F n o k s= .ok (.agg cs) s:=by
  unfold cX at h;unfold qz;split at h
  ·rename_i l e;split at h
   ·rename_i q;injection h with h;subst h
    rw[e,cf,q,dB];rfl
   ·cases h
  ·cases h
 cases m<;>exact this
theorem Zc{l:List AV}{z:Nat×List AV}(h:Nw l=some z):l= .ptr (some (z.1,0))::z.2:=by
 unfold Nw at h;split at h
 ·injection h with h;subst h;rfl
 ·cases h
theorem aau{o:Option ae}{u:Nat×AV}(h:OS o=some u):o=some (.tok u.1 u.2):=by
 unfold OS at h;split at h
 ·injection h with h;subst h;rfl
 ·cases h
theorem CJ{E:Env}(hE:E.Ok):∀(fuel n:Nat) (c:KL) (p:Pl) (rs:List ResultVar) (k:Kt) (C:zx) (G:AF->AS->Prop),Chunk E.P (bg E.P E.sp E.F n) G->
 (∀fr s j aT jm s1 x s2 p,dW E.P (bg E.P E.sp E.F n) j fr s= .ok (.leave aT jm) s1->finish E.P rs aT jm s1= .ok x s2->k x s2 p->G fr s)->(∀fr s p,C fr s p->G fr s)->(∀f nt K t s l o nx p,E.fg=true->pt top l=true->pt top o=true->(Nat.ble s.nx nx&&Nat.ble nx top)=true->xg t l->xJ s.h o->C ⟨f,aS l,nt,K,[],none⟩ (aq o nx) p->G ⟨f,t,nt,K,[],none⟩ s)->(∀f nt K t s l0 o0 l o nx p,E.fg=true->l0.map (fun q=>t.get q.1)=l0.map (fun q=>some q.2)->o0.map (fun q=>s.h.get q.1)=o0.map (fun q=>q.2)->jF E.F E.lo s.nx l0 o0 l o nx->C ⟨f,aS l,nt,K,[],none⟩ (aq o nx) p->G ⟨f,t,nt,K,[],none⟩ s)->(∀f nt K t s l o nx p,E.fg=true->pt top l=true->pt nx o=true->(Nat.ble nx s.nx&&(Nat.blt s.nx top&&Nat.ble E.lo nx))=true->xg t l->xJ s.h o->xM nx l o->C ⟨f,aS l,nt,K,[],none⟩ (aq o nx) p->G ⟨f,t,nt,K,[],none⟩ s)->wp E fuel n c p rs k C->Gof E.P (bg E.P E.sp E.F n) G c
 |0,n,c,p,rs,k,C,G,hG,hk,hC,hL,hR,hB,h=>h.elim
 |fuel+1,n,c,p,rs,k,C,G,hG,hk,hC,hL,hR,hB,h=>by
  have ih:=CJ hE fuel;have h:Qb E (wp E fuel) n c p rs k C:=h;unfold Qb at h;cases c with
  |fr f nt K t s=>
   simp only at h;split at h
   ·obtain⟨x,s1,h1,h⟩:=FB h;obtain⟨y,h2,h⟩:=bc h;rw[aar h2] at h1;exact hG _ _ _ _ _ h1<|ih n _ _ rs k C G hG hk hC hL hR hB h
   ·obtain⟨x,h1,h⟩:=bc h;obtain⟨id,rfl⟩:=Zb h1;exact lR.ah4 hG<|ih n _ _ rs k C G hG hk hC hL hR hB h
   ·obtain⟨x,s1,h1,h⟩:=FB h;obtain⟨y,h2,h⟩:=bc h;obtain⟨v,s2,h3,h⟩:=FB h;rw[aas h2] at h1;exact hk _ _ _ _ _ _ _ _ _ h1 h3 h
   ·exact hC _ _ _ h
   ·obtain⟨h1,h2,h3,h⟩:=gS h;obtain⟨q0,h1⟩:=and_true.1 h1;obtain⟨q1,h1⟩:=and_true.1 h1;obtain⟨q2,h1⟩:=and_true.1 h1;obtain⟨q3,q4⟩:=and_true.1 h1;exact hL _ _ _ _ _ _ _ _ _ q0 q1 q2 q3 (MW h2) (Nx h3 q4) h
   ·obtain⟨h1,h2,h3,h4,h⟩:=gS h;obtain⟨q0,q1⟩:=and_true.1 h1;have q1:=Nat.eq_of_beq_eq_true q1;rw[←q1] at h4;exact hR _ _ _ _ _ _ _ _ _ _ _ q0 h2 h3 h4 h
   ·obtain⟨h1,h2,h3,h4,h⟩:=gS h;obtain⟨q0,h1⟩:=and_true.1 h1;obtain⟨q1,h1⟩:=and_true.1 h1;obtain⟨q2,h1⟩:=and_true.1 h1;obtain⟨q3,q4⟩:=and_true.1 h1;exact hB _ _ _ _ _ _ _ _ _ q0 q1 q2 q3 (MW h2) (Nx h3 q4) h4 h
   ·exact h.elim
  |rg f nt K ops D i t s=>
   simp only at h;split at h
   ·obtain⟨h1,h⟩:=gS h;obtain⟨x,s1,h2,h⟩:=FB h;exact lR.go h1 h2<|ih n _ _ rs k C G hG hk hC hL hR hB h
   ·obtain⟨h1,h⟩:=gS h;obtain⟨h2,h⟩:=gS h;exact lR.done h1 h2<|ih n _ _ rs k C G hG hk hC hL hR hB h
   ·obtain⟨o,ho,h⟩:=bc h;obtain⟨hw,h⟩:=gS h;obtain⟨op,d,g⟩:=o;simp only at hw h;have hn:∀v s1 p,(dG E.P op).val (bg E.P E.sp E.F n) t (iw D s)= .ok v s1->(wo (jk nt t d v) fun t1=>wp E fuel n (.rg f nt K ops (Kb D i s s1) (i+1) t1<|DT D s s1) p rs k C)->lR E.P (bg E.P E.sp E.F n) G f nt K ops D i t s:=by intro v s1 p hv h;obtain⟨t1,hp,h⟩:=bc h;exact lR.op ho hw hv hp (ih n _ _ rs k C G hG hk hC hL hR hB h)
    generalize cM:(fun(v:AV) (s1:AS) (p:Pl)=>wo (jk nt t d v) fun t1=>wp E fuel n (.rg f nt K ops (Kb D i s s1) (i+1) t1<|DT D s s1) p rs k C)=nx at h;have hn:∀v s1 p,(dG E.P op).val (bg E.P E.sp E.F n) t (iw D s)= .ok v s1->nx v s1 p->lR E.P (bg E.P E.sp E.F n) G f nt K ops D i t s:=by intro v s1 p hv h;rw[←cM] at h;exact hn v s1 p hv h
    have kD:∀v h2 R W p,((D.isSome&&Nat.beq s.mark 0)||Nat.beq (iw D s).mark 0)=true->(∃rd wr,(∀k∈rd,k∈R\/k∈(iw D s).rd)/\(∀k∈wr,k∈W\/k∈(iw D s).wr)/\((iw D s).mark=0->rd=(iw D s).rd/\wr=(iw D s).wr)/\
     (dG E.P op).val (bg E.P E.sp E.F n) t (iw D s)= .ok v ⟨h2,(iw D s).nx+1,(iw D s).mark,rd,wr⟩)->nx v (Kc (D.isSome&&Nat.beq s.mark 0) (iw D s) h2 R W) p->lR E.P (bg E.P E.sp E.F n) G f nt K ops D i t s:=by
     rintro v h2 R W p cS ⟨rd,wr,a1,a2,a3,hv⟩ h;cases Qc:(D.isSome&&Nat.beq s.mark 0) with
     |false=>rw[Qc] at cS h;have zN:=Nat.eq_of_beq_eq_true (show Nat.beq (iw D s).mark 0=true from cS);obtain⟨rfl,rfl⟩:=a3 zN;exact hn _ _ _ hv h
     |true=>
      rw[Qc] at h;obtain⟨Qd,hd2⟩:=and_true.1 Qc;cases D with
      |none=>cases Qd
      |some acc=>
       have hm:s.mark=0:=Nat.eq_of_beq_eq_true hd2;have a1:∀k∈rd,k∈R:=fun k hk=>(a1 k hk).resolve_right (by show ¬k∈([]:List Nat);simp);have a2:∀k∈wr,k∈W:=fun k hk=>(a2 k hk).resolve_right (by show ¬k∈([]:List Nat);simp);have h:nx v ⟨h2,(iw (some acc) s).nx+1,(iw (some acc) s).mark,R,W⟩ p:=h;rw[←cM] at h;obtain⟨t1,hp,h⟩:=bc h;refine lR.op ho hw hv hp ?_;have H:=ih n _ _ rs k C G hG hk hC hL hR hB h;have e:DT (some acc) s ⟨h2,(iw (some acc) s).nx+1,(iw (some acc) s).mark,rd,wr⟩=DT (some acc) s ⟨h2,(iw (some acc) s).nx+1,(iw (some acc) s).mark,R,W⟩:=by show Dt s _=Dt s _;unfold Dt;rw[hm,HA,HA,HA,HA]
       rw[e];exact qA.cover (Pp:=acc++[Ka i s ⟨h2,(iw (some acc) s).nx+1,(iw (some acc) s).mark,R,W⟩]) (nf.app (nf.refl acc) ⟨⟨rfl,fun n h=>SE a1 n h,fun n h=>SE a2 n h,rfl,rfl⟩,trivial⟩) H
    show lR E.P (bg E.P E.sp E.F n) G f nt K ops D i t s;unfold Xl at h;split at h
    ·obtain⟨x,h1,h⟩:=bc h;obtain⟨a,h2,h⟩:=bc h;obtain⟨b,h3,h⟩:=bc h;obtain⟨a1,h4,h⟩:=bc h;obtain⟨b1,h5,h⟩:=bc h;obtain⟨h6,h⟩:=gS h;obtain⟨c,h7,hy,lY⟩:=bc h;have h6:=of_decide_eq_true h6;have e:=Rc h1;rw[qS h4] at h2;rw[qS h5, ←h6] at h3;obtain⟨r,hr,Xm⟩:=acX h7;have hv:(dG E.P op).val (bg E.P E.sp E.F n) t (iw D s)= .ok (.bool r) (iw D s):=by rw[e];exact aez h2 h3 hr
     cases r with
     |true=>exact hn _ _ _ hv<|hy<|Xm.1 rfl
     |false=>exact hn _ _ _ hv (lY fun q=>by have:=Xm.2 q;cases this)
    ·obtain⟨v',s1,h1,rfl,h⟩:=FB h;exact hn _ _ _ h1 h
    ·obtain⟨x,h1,h⟩:=bc h;obtain⟨m,hm,h⟩:=bc h;obtain⟨val,h2,h⟩:=bc h;obtain⟨h3,h4,h⟩:=gS h;have e:=EV hm;exact hn _ _ _ (by rw[e];exact Ao h1<|hE.uf _ _ _ _ _ _ h2 h4 h3) h
    ·obtain⟨x,h1,h⟩:=bc h;obtain⟨m,hm,h⟩:=bc h;obtain⟨val,h2,h⟩:=bc h;obtain⟨h3,h4,hy,lY⟩:=gS h;have e:=EV hm;have hv:=fun b (h4:val x.2=some (.bool b))=>(show(dG E.P op).val (bg E.P E.sp E.F n) t (iw D s)= .ok (.bool b) (E.cs<|iw D s) by rw[e];exact Ao (P:=E.P) h1<|hE.uf _ _ _ _ _ m h2 h4 h3);exact abF h4 hy lY (fun q h=>hn _ _ _ (hv _ q) h) fun q h=>hn _ _ _ (hv _ q) h
    ·obtain⟨x,h1,h2,h⟩:=bc h;exact hn _ _ _ (Ao h1 h2) h
    ·obtain⟨x,h1,h2,h3,h⟩:=bc h;exact hn _ _ _ (Ao h1<|h2 _ h3) h
    ·obtain⟨x,h1,h⟩:=bc h;obtain⟨a,h2,h⟩:=bc h;obtain⟨a',h3,h⟩:=bc h;obtain⟨b,h4,h⟩:=bc h;obtain⟨m,h5,h⟩:=bc h;obtain⟨i1,h6,h⟩:=bc h;obtain⟨hb,k1,k2,k3,k4,k5,k6,k7,h⟩:=gS h;obtain⟨b1,hb⟩:=and_true.1 hb;obtain⟨b0,hb⟩:=and_true.1 hb;obtain⟨b2,hb⟩:=and_true.1 hb;obtain⟨b3,hb⟩:=and_true.1 hb;obtain⟨b4,b5⟩:=and_true.1 hb;have b1:=Nat.eq_of_beq_eq_true b1;obtain⟨ty,e,e1,e2,e3,e4,e5⟩:=Hm h6;cases jv:E.P.info? e with
     |none=>rw[jv] at e3;cases e3
     |some i0=>rw[jv] at e3;simp only[Option.map_some,Option.some.injEq,Prod.mk.injEq] at e3;obtain⟨q1,q2,q3⟩:=e3;rw[abE h3,k1,k2,b1, ←q1] at h2;rw[ZF h5] at h4;rw[←q1] at k5 k7 h b0;rw[←q2] at k6 e5;refine kD _ _ _ _ _ b5 ?_ h;rw[Hl h1];obtain⟨rd,wr,d1,d2,d3,d4⟩:=aeF h2 h4 e1 e2 jv (by rw[q3,e4];rfl) k3 k4 (by rw[b2,b3,b4];rfl) k5 ((blt_eq _ _).mp b0) e5 k6 k7;exact⟨rd,wr,fun k hk=>by rcases d1 k hk with rfl|rfl|h;exact .inl iJ;exact .inl iJ;exact .inr h,fun k hk=>by rcases d2 k hk with rfl|h;exact .inl iJ;exact .inr h,d3,d4⟩
    ·obtain⟨x,h1,h⟩:=bc h;obtain⟨a,h2,h⟩:=bc h;obtain⟨a',h3,h⟩:=bc h;obtain⟨ad,h4,h⟩:=bc h;obtain⟨z,h5,h⟩:=bc h;obtain⟨z',h6,h⟩:=bc h;obtain⟨K1,h7,h⟩:=bc h;obtain⟨h8,h9,gE,h⟩:=gS h;refine hn _ _ _ ?_ h;rw[Lt h1];rw[Za h3,h4] at h2;obtain⟨n0,o0⟩:=ad;have h8:o0=0:=Nat.eq_of_beq_eq_true h8;subst h8;rw[qS h6] at h5;exact af4 h2 h5 h7 h9 gE
    ·obtain⟨x,h1,h⟩:=bc h;obtain⟨a,h2,h⟩:=bc h;obtain⟨a',h3,h⟩:=bc h;obtain⟨z,h5,h⟩:=bc h;obtain⟨z',h6,h⟩:=bc h;obtain⟨K1,h7,h9,gE,h⟩:=bc h;refine hn _ _ _ ?_ h;rw[Lt h1];rw[SD h3] at h2;rw[qS h6] at h5;exact aeL h2 h5 h7 h9 gE
    ·obtain⟨x,h1,h⟩:=bc h;obtain⟨a,h2,h⟩:=bc h;obtain⟨a',h3,h⟩:=bc h;obtain⟨ag,h4,h⟩:=bc h;obtain⟨k1,h5,h⟩:=bc h;obtain⟨h6,h⟩:=gS h;obtain⟨h7,h⟩:=gS h;obtain⟨v,h8,h9,h⟩:=bc h;refine hn _ _ _ ?_ h;rw[Hi h1];rw[Hz h3] at h2;exact OT h2 h4 h5 h6 h7 h8 h9
    ·obtain⟨x,h1,h⟩:=bc h;obtain⟨a,h2,h⟩:=bc h;obtain⟨a',h3,h⟩:=bc h;obtain⟨ag,h4,h⟩:=bc h;obtain⟨h5,h⟩:=gS h;obtain⟨h7,h8,hy,lY⟩:=gS h;have h5:ag=false:=by simpa using h5
     subst h5;rw[Hz h3] at h2;exact aat hy lY (fun e h=>hn _ _ _ (by rw[Hi h1];exact OT h2 h4 rfl rfl h7 rfl<|by rw[h8,e]) h) fun e h=>hn _ _ _ (by rw[Hi h1];exact OT h2 h4 rfl rfl h7 rfl<|by rw[h8,e]) h
    ·obtain⟨x,h1,h⟩:=bc h;obtain⟨a,h2,h⟩:=bc h;obtain⟨a',h3,h⟩:=bc h;obtain⟨ag,h4,h⟩:=bc h;obtain⟨z,hz,h⟩:=bc h;obtain⟨k1,h5,h⟩:=bc h;obtain⟨v,h8,h9,gE,h⟩:=bc h;refine hn _ _ _ ?_ h;rw[Hi h1];rw[ZG h3] at h2;exact aeN h2 h4 hz h5 h8 h9 gE
    ·obtain⟨x,h1,h⟩:=bc h;obtain⟨a,h2,h⟩:=bc h;obtain⟨a',h3,h⟩:=bc h;obtain⟨v,h4,h⟩:=bc h;obtain⟨k1,h5,h⟩:=bc h;obtain⟨h6,h⟩:=gS h;obtain⟨h7,h⟩:=gS h;obtain⟨h8,h⟩:=gS h;obtain⟨h9,gE,h⟩:=gS h;refine hn _ _ _ ?_ h;rw[Yn h1];rw[Hz h3] at h2;exact aeM h2 h4 h5 h6 h7 h8 h9 gE
    ·obtain⟨x,h1,h⟩:=bc h;obtain⟨h6,h⟩:=gS h;obtain⟨a,h2,h⟩:=bc h;obtain⟨b,h3,h⟩:=bc h;obtain⟨a1,h4,h⟩:=bc h;obtain⟨b1,h5,h⟩:=bc h;obtain⟨h8,h7,h⟩:=gS h;have ea:x.1= .rem:=by revert h6;split<;>intro h6<;>first|assumption|cases h6
     have h8:=of_decide_eq_true h8;refine hn _ _ _ ?_ h;rw[Rc h1];rw[qS h4] at h2;rw[qS h5, ←h8] at h3;exact af5 ea h2 h3 h7
    ·obtain⟨x,h1,h⟩:=bc h;obtain⟨a,h2,h⟩:=bc h;obtain⟨a',h3,h⟩:=bc h;obtain⟨b,h4,h⟩:=bc h;obtain⟨b',h5,h⟩:=bc h;obtain⟨i1,h6,h⟩:=bc h;obtain⟨hb,k1,k2,k3,k4,k5,k6,k7,k8,h⟩:=gS h;obtain⟨b1,hb⟩:=and_true.1 hb;obtain⟨b2,hb⟩:=and_true.1 hb;obtain⟨b3,b4⟩:=and_true.1 hb;obtain⟨ty,e,e1,e2,e3,e4,e5⟩:=Hm h6;cases jv:E.P.info? e with
     |none=>rw[jv] at e3;cases e3
     |some i0=>rw[jv] at e3;simp only[Option.map_some,Option.some.injEq,Prod.mk.injEq] at e3;obtain⟨q1,q2,q3⟩:=e3;rw[AA h3] at h2;rw[SD h5] at h4;rw[←q1] at k4 k6 k8 h b1;rw[←q2] at k7 e5;refine kD _ _ _ _ _ b4 ?_ h;rw[Hl h1];obtain⟨rd,wr,d1,d2,d3,d4⟩:=aeE (s:=iw D s) (Ye:=bg E.P E.sp E.F n) h2 k1 h4 e1 e2 jv (by rw[q3,e4];rfl) b1 k3 (fun s'=>abG k4) k5 k2 (by rw[b2,b3];rfl) k6 e5 k7 k8;exact⟨rd,wr,fun k hk=>by rcases d1 k hk with rfl|h;exact .inl iJ;exact .inr h,fun k hk=>by rcases d2 k hk with rfl|h;exact .inl iJ;exact .inr h,d3,d4⟩
    ·obtain⟨x,h1,h2,h⟩:=bc h;exact hn _ _ _ (ZE h1 h2) h
    ·obtain⟨x,h1,h⟩:=bc h;obtain⟨a,h2,h⟩:=bc h;obtain⟨a',h3,h⟩:=bc h;obtain⟨z,h5,h⟩:=bc h;obtain⟨z',h6,h⟩:=bc h;obtain⟨K1,h7,h9,gE,h⟩:=bc h;refine hn _ _ _ ?_ h;rw[Lt h1];rw[Hz h3] at h2;rw[qS h6] at h5;exact aeK h2 h5 h7 h9 gE
    ·obtain⟨x,h1,h⟩:=bc h;obtain⟨m,hm,h⟩:=bc h;obtain⟨q,h2,h⟩:=bc h;obtain⟨z,h3,h⟩:=bc h;obtain⟨u,h4,h⟩:=bc h;obtain⟨h5,h6,h⟩:=gS h;obtain⟨c1,h5⟩:=and_true.1 h5;obtain⟨c2,h5⟩:=and_true.1 h5;obtain⟨c3,h5⟩:=and_true.1 h5;obtain⟨c4,c5⟩:=and_true.1 h5;have e:=EV hm;have c2:q.1=u.1:=Nat.eq_of_beq_eq_true c2;refine hn _ _ _ ?_ h;rw[e];refine Ao h1 ?_;rw[Zc h3];exact hE.tt _ _ _ _ _ _ _ _ _ h2 c1 c3 c4 c5 (by rw[aau h4,c2]) h6
    ·obtain⟨x,h1,h⟩:=bc h;obtain⟨m,hm,h⟩:=bc h;obtain⟨q,h2,h⟩:=bc h;obtain⟨h5,h6,h⟩:=gS h;obtain⟨c1,c2⟩:=and_true.1 h5;have e:=EV hm;refine hn _ _ _ ?_ h;rw[e];exact Ao h1<|hE.tn _ _ _ _ _ _ _ h2 c1 c2 h6
    ·obtain⟨x,h1,h⟩:=bc h;obtain⟨a,h2,h⟩:=bc h;obtain⟨n',h3,h⟩:=bc h;obtain⟨i',h4,h⟩:=bc h;obtain⟨i1,h5,h⟩:=bc h;obtain⟨y,h6,h⟩:=bc h;obtain⟨hb,h7,h8,h9⟩:=gS h;obtain⟨b1,hb⟩:=and_true.1 hb;obtain⟨b2,hb⟩:=and_true.1 hb;obtain⟨b3,hb⟩:=and_true.1 hb;obtain⟨b4,b5⟩:=and_true.1 hb;rw[SC h3] at h2;rw[qS h5,Mi b3] at h4;have key:=aeG (P:=E.P) (Ye:=bg E.P E.sp E.F n) h2 h4 (RP h6) b1 b2 (abD b4) h7 b5;rw[←Ym h1] at key;cases hq:lA _ i1.2 with
     |true=>rw[hq,if_pos rfl] at key;exact hn _ _ _ key<|h8 hq
     |false=>rw[hq,if_neg (by intro e;cases e)] at key;exact hn _ _ _ key<|h9 hq
    ·obtain⟨x,h1,h⟩:=bc h;obtain⟨a,h2,h⟩:=bc h;obtain⟨n',h3,h⟩:=bc h;obtain⟨i',h4,h⟩:=bc h;obtain⟨i1,h5,h⟩:=bc h;obtain⟨v',h8,h⟩:=bc h;obtain⟨v1,h9,h⟩:=bc h;obtain⟨y,h6,h⟩:=bc h;obtain⟨hb,h7,h⟩:=gS h;obtain⟨b1,hb⟩:=and_true.1 hb;obtain⟨b2,hb⟩:=and_true.1 hb;obtain⟨b3,hb⟩:=and_true.1 hb;obtain⟨b4,hb⟩:=and_true.1 hb;obtain⟨b5,b6⟩:=and_true.1 hb;refine hn _ _ _ ?_ h;rw[YM h1];rw[SC h3] at h2;rw[qS h5,Mi b3] at h4;rw[qS h9,Mi b4] at h8;exact aeH h2 h4 h8 (RP h6) b1 b2 h7 b5 b6
    ·obtain⟨x,h1,h⟩:=bc h;obtain⟨a,h2,h⟩:=bc h;obtain⟨a',h3,h⟩:=bc h;obtain⟨K1,h4,h⟩:=bc h;obtain⟨nX,h5,h⟩:=bc h;obtain⟨jv,h6,h⟩:=bc h;obtain⟨h7,h8,h9,k1,hz⟩:=gS h;rw[h8] at h5;rw[AA h3] at h2;refine hn _ _ _ ?_ hz;rw[Yo h1];exact af6 h2 h4 h5 h6 h7 h9 k1
    ·obtain⟨x,h1,h⟩:=bc h;obtain⟨a,h2,h⟩:=bc h;obtain⟨a',h3,h⟩:=bc h;obtain⟨K1,h4,h⟩:=bc h;obtain⟨hi,h5,h⟩:=bc h;obtain⟨jv,h6,h⟩:=bc h;obtain⟨mx,h7,h⟩:=bc h;obtain⟨Eb,h8,h⟩:=bc h;obtain⟨h9,k1,k2,k3,h⟩:=gS h;rw[AA h3] at h2;rw[qS h6] at h5;rw[qS h8] at h7;refine hn _ _ _ ?_ h;rw[Yg h1];exact af7 h2 h4 h5 h7 h9 k1 k2 k3
    ·obtain⟨x,h1,h⟩:=bc h;obtain⟨a,h2,h⟩:=bc h;obtain⟨a',h3,h⟩:=bc h;obtain⟨b,h4,h⟩:=bc h;obtain⟨b',h5,h⟩:=bc h;obtain⟨i1,h6,h⟩:=bc h;obtain⟨hb,k0,k1,k2,k3,k4,k5,k6,k7,k8,k9,rV,yd,h⟩:=gS h;obtain⟨b1,hb⟩:=and_true.1 hb;obtain⟨b2,hb⟩:=and_true.1 hb;obtain⟨b3,b4⟩:=and_true.1 hb;obtain⟨ty,e,e1,e2,e3,e4,e5⟩:=Hm h6;cases jv:E.P.info? e with
     |none=>rw[jv] at e3;cases e3
     |some i0=>rw[jv] at e3;simp only[Option.map_some,Option.some.injEq,Prod.mk.injEq] at e3;obtain⟨q1,q2,q3⟩:=e3;rw[AA h3,k0] at h2;rw[AA h5] at h4;rw[←q1] at k6 k7 k8 h;rw[←q2] at rV e5;refine kD _ _ _ _ _ b4 ?_ h;rw[Hl h1];obtain⟨rd,wr,d1,d2,d3,d4⟩:=aeI (s:=iw D s) (Ye:=bg E.P E.sp E.F n) h2 h4 e1 e2 jv (by rw[q3,e4];rfl) k1 k2 k3 k4 k5 k6 k7 k8 (by rw[b1,b2,b3];rfl) k9 e5 rV yd;exact⟨rd,wr,fun k hk=>by rcases d1 k hk with rfl|rfl|h;exact .inl iJ;exact .inl iJ;exact .inr h,fun k hk=>.inr<|d2 k hk,d3,d4⟩
    ·obtain⟨x,h1,h⟩:=bc h;obtain⟨a,h2,h⟩:=bc h;obtain⟨a',h3,h⟩:=bc h;obtain⟨b,h4,h⟩:=bc h;obtain⟨b',h5,h⟩:=bc h;obtain⟨i1,h6,h⟩:=bc h;obtain⟨hb,k0,kk,k1,k2,k3,k4,k5,k6,k7,k8,k9,rV,yd,h⟩:=gS h;obtain⟨b0,hb⟩:=and_true.1 hb;obtain⟨b1,hb⟩:=and_true.1 hb;obtain⟨b2,b3⟩:=and_true.1 hb;obtain⟨ty,e,e1,e2,e3,e4,e5⟩:=Hm h6;cases jv:E.P.info? e with
     |none=>rw[jv] at e3;cases e3
     |some i0=>rw[jv] at e3;simp only[Option.map_some,Option.some.injEq,Prod.mk.injEq] at e3;obtain⟨q1,q2,q3⟩:=e3;rw[AA h3,k0] at h2;rw[AA h5] at h4;rw[←q1] at k6 k7 k8 h b0;rw[←q2] at rV e5;refine hn _ _ _ ?_ h;rw[Hl h1];exact aeJ (s:=iw D s) (Ye:=bg E.P E.sp E.F n) h2 h4 e1 e2 jv (by rw[q3,e4];rfl) kk k1 (by unfold xj at b0;exact(blt_eq _ _).mp b0) k2 k3 k4 k5 k6 k7 k8 (by rw[b1,b2,b3];rfl) k9 e5 rV yd
    ·obtain⟨x,h1,h⟩:=bc h;obtain⟨m,hm,h⟩:=bc h;have e:=EV hm;split at h
     ·exact h.elim
     ·rename_i ug;obtain⟨fn,cm,h⟩:=bc h;obtain⟨body,cv,h⟩:=bc h;obtain⟨dJ,h⟩:=gS h;obtain⟨oH,h⟩:=gS h;have dJ:(fn.name == "runtime.NumGoroutine")=false:=by simpa using dJ
      have H:=ih m _ _ _ nx (fun _ _ _=>False) (Ev E.P (bg E.P E.sp E.F m) fun aT jm s1=>∃v s2 p,finish E.P fn.results.toList aT jm s1= .ok v s2/\nx v s2 p) Chunk.ev (fun fr s j aT jm s1 v s2 p q1 q2 q3=>⟨j,aT,jm,s1,q1,v,s2,p,q2,q3⟩) (fun _ _ _ q=>q.elim) (fun _ _ _ _ _ _ _ _ _ _ _ _ _ _ _ q=>q.elim) (fun _ _ _ _ _ _ _ _ _ _ _ _ _ _ _ q=>q.elim) (fun _ _ _ _ _ _ _ _ _ _ _ _ _ _ _ _ q=>q.elim) h;obtain⟨j,aT,jm,s1,q1,v,s2,p,q2,q3⟩:=H;refine hn _ _ _ (Ao h1 ?_) q3;rw[e];show ko E.P E.sp x.1 (bg E.P E.sp E.F m) x.2 _=_;rw[MU ug cm cv dJ];unfold uM;rw[oH,dB,M.bK<|HL q1];exact q2
    ·exact h.elim
theorem ax{B:Prop}(c:Prop)(x:c->A)(y:¬c->B):(c->A)/\(¬c->B):=⟨x,y⟩
theorem au.back{P:Program}{s:AS}{t:Tr AV}{nt f:Nat}{K:List Item}{o:List<|Nat×Option ae}{nx:Nat}(hl:pt top l=true)(ho:pt nx o=true)(hn:(Nat.ble nx s.nx&&(Nat.blt s.nx top&&Nat.ble J nx))=true)(hg:fN<=J)(ht:xg t l)(hh:xJ s.h o)(he:xM nx l o)(H:au P B J Q ⟨f,aS l,nt,K,[],none⟩<|aq o nx):au P B J Q ⟨f,t,nt,K,[],none⟩ s:=by
 obtain⟨n1,n2⟩:=and_true.1 hn;obtain⟨n2,n3⟩:=and_true.1 n2;have n1:=aL.1 n1;have n2:=(blt_eq _ _).mp n2;have n3:=aL.1 n3;let r:Nat->Nat:=fun k=>if k<nx\/top<=k then k else max k s.nx
 have r1:∀k,k<nx->r k=k:=fun k hk=>by show(if _ then _ else _)=_;rw[if_pos<|.inl hk]
 have r2:∀k,top<=k->r k=k:=fun k hk=>by show(if _ then _ else _)=_;rw[if_pos<|.inr hk]
 obtain⟨e1,e2⟩:=he r r1 r2;refine au.weaken (s2:=aq o nx) (t2:=aS l) [] r (fun k hk=>r1 k aj) (fun k hk ht=>?_) r2 hg ⟨Nat.zero_le _,by show nx<=top;omega⟩ rfl rfl (fun _ h=>by cases h) (fun i y hy=>?_) (fun n o2 hn hg=>?_) (fun _ h=>by cases h) (fun n m x y hn hm h1 h2 e=>?_) H
 ·have GI:nx<=k:=hk;show s.nx<=(if _ then _ else _)/\(if _ then _ else _)<top;rw[if_neg aj];omega
 ·have hm:=Ff (fun p hp=>wy hl p hp) hy;exact⟨y,ht.mem _ hm,(e1 _ hm).z⟩
 ·have cR:∀p∈o,p.1<top:=fun p hp=>by have:=wy ho p hp;omega
  have hm:=wx cR hg;obtain⟨h1,h2⟩:=hh.mem _ hm;have bJ:n<nx:=wy ho _ hm;rw[r1 n bJ];exact⟨hn,h2 o2 rfl,o2,h1,iv.refl _,(e2 _ hm o2 rfl).z⟩
 ·have cR:∀p∈o,p.1<top:=fun p hp=>by have:=wy ho p hp;omega
  have a1:n<nx:=wy ho _<|wx cR h1;have a2:m<nx:=wy ho _<|wx cR h2;rw[r1 n a1,r1 m a2] at e;exact e
theorem au.rn{P:Program}{s:AS}{t:Tr AV}{nt f:Nat}{K:List Item}{l0:List<|Nat×AV}{o0 o:List<|Nat×Option ae}{nx:Nat}(hg:fN<=J)(h1:l0.map (fun q=>t.get q.1)=l0.map (fun q=>some q.2))(h2:o0.map (fun q=>s.h.get q.1)=o0.map (fun q=>q.2))(hw:jF B.F J s.nx l0 o0 l o nx)(H:au P B J Q ⟨f,aS l,nt,K,[],none⟩<|aq o nx):au P B J Q ⟨f,t,nt,K,[],none⟩ s:=by
 obtain⟨fz,r,r1,r2,r3,r4,r5,r6,r7,r8,r9⟩:=hw;have hs:∀(l0:List<|Nat×AV),l0.map (fun q=>t.get q.1)=l0.map (fun q=>some q.2)->∀p∈l0,t.get p.1=some p.2:=by
  intro l0;induction l0 with
  |nil=>intro _ p hp;cases hp
  |cons a l ih=>
   intro h p hp;simp only[List.map_cons,List.cons.injEq] at h;rcases List.mem_cons.1 hp with rfl|hp
   ·exact h.1
   ·exact ih h.2 p hp
 have ho:∀(o0:List<|Nat×Option ae),o0.map (fun q=>s.h.get q.1)=o0.map (fun q=>q.2)->∀p∈o0,s.h.get p.1=p.2:=by
  intro o0;induction o0 with
  |nil=>intro _ p hp;cases hp
  |cons a l ih=>
   intro h p hp;simp only[List.map_cons,List.cons.injEq] at h;rcases List.mem_cons.1 hp with rfl|hp
   ·exact h.1
   ·exact ih h.2 p hp
 have ui:∀n y,n<top->(gf o).get n=some y->(n,some y)∈o:=fun n y hn hg=>wx (fun p hp=>(r6 p hp).1) hg;refine au.weaken (s2:=aq o nx) (t2:=aS l) fz r r1 (fun k hk ht=>r2 k hk ht) r3 hg ⟨Nat.zero_le _,r4⟩ rfl rfl (fun p hp=>?_) (fun i y hy=>?_) (fun n y hn hg=>?_) (fun p hp n y hn hg=>?_) (fun n m x y hn hm e1 e2 e=>?_) H
 ·obtain⟨q1,q2,N,t',z,q3,q4⟩:=r8 p hp;exact⟨q1,q2,N,t',z,ho o0 h2 _ q3,fun i x hx=>by obtain⟨i1,i2,i3,i4⟩:=q4 i x hx;exact⟨i1,i2,i3,fun ρ v hv=>AV.uO aeD i4 hv⟩⟩
 ·have hm:=Ff (fun p hp=>(r5 p hp).1) hy;obtain⟨_,x,hx,hv⟩:=r5 _ hm;exact⟨x,hs l0 h1 _ hx,hv⟩
 ·obtain⟨_,q⟩:=r6 _<|ui n y hn hg;obtain⟨q1,q2,x,q3,q4,q5⟩:=q y rfl;exact⟨q1,q2,x,ho o0 h2 _ q3,q4,q5⟩
 ·exact r9 p hp _ (ui n y hn hg) iJ
 ·exact r7 _ (ui n x hn e1) _ (ui m y hm e2) iJ iJ e
theorem wZ{E:Env}(hE:E.Ok){P:Program}(hP:E.P=P){f nt:Nat}{t:Tr AV}{K:List Item}{s:AS}{R:AV->AS->Prop}(bV:P.follows .mixedOrders=true)(hc:fQ P B<|bg E.P E.sp E.F n)(hl:∀t a,Yd<|bg E.P E.sp E.F n t a)(hg:fN<=J)(gF:E.lo=J)(hF:B.F=E.F){C:zx}(hC:∀fr s p,C fr s p->au P B J (Fin P rs R) fr s)(fuel:Nat)(p:Pl)(x:T)(h:T=wp E fuel n (.fr f nt K t s) p rs (fun v s _=>R v s) C:=by as_aux_lemma=>kernel_rfl)(h0:Nat.ble J s.nx=true:=by as_aux_lemma=>kernel_rfl):au P B J (Fin P rs R) ⟨f,t,nt,K,[],none⟩ s:=by
 subst hP;have H:=CJ hE fuel n (.fr f nt K t s) p rs (fun v s _=>R v s) C (zw E.P B J<|Fin E.P rs R) (Chunk.Ei bV hc hl)
  (fun fr s j aT jm s1 v s2 p q1 q2 q3 h0=>au.leave bV hc hl q1 h0 ⟨v,s2,by rw[←ET];exact q2,q3⟩) (fun fr s p q _=>hC fr s p q)
  (fun f nt K t s l o nx p _ q1 q2 q3 q4 q5 q6 _=>au.less q1 q2 q3 hg q4 q5<|hC _ _ _ q6) (fun f nt K t s l0 o0 l o nx p _ q1 q2 q3 q4 _=>au.rn hg q1 q2 (by rw[←gF,hF];exact q3)<|hC _ _ _ q4) (fun f nt K t s l o nx p _ q1 q2 q3 q4 q5 q6 q7 _=>au.back q1 q2 (by rw[←gF];exact q3) hg q4 q5 q6<|hC _ _ _ q7) (h▸x)
 exact zw.start h0 H
theorem mh{E:Env}(hE:E.Ok){P:Program}(hP:E.P=P){f nt:Nat}{t:Tr AV}{K:List Item}{s:AS}{R:AV->AS->Prop}(bV:P.follows .mixedOrders=true)(hc:fQ P B<|bg E.P E.sp E.F n)(hl:∀t a,Yd<|bg E.P E.sp E.F n t a)(fuel:Nat)(p:Pl)(x:T)(h:T=wp E fuel n (.fr f nt K t s) p rs (fun v s _=>R v s) (fun _ _ _=>False):=by as_aux_lemma=>kernel_rfl)(h0:Nat.ble J s.nx=true:=by as_aux_lemma=>kernel_rfl):au P B J (Fin P rs R) ⟨f,t,nt,K,[],none⟩ s:=by subst hP;have H:=CJ hE fuel n (.fr f nt K t s) p rs (fun v s _=>R v s) (fun _ _ _=>False) (zw E.P B J<|Fin E.P rs R) (Chunk.Ei bV hc hl) (fun fr s j aT jm s1 v s2 p q1 q2 q3 h0=>au.leave bV hc hl q1 h0 ⟨v,s2,by rw[←ET];exact q2,q3⟩) (fun _ _ _ q=>q.elim) (fun _ _ _ _ _ _ _ _ _ _ _ _ _ _ _ q=>q.elim) (fun _ _ _ _ _ _ _ _ _ _ _ _ _ _ _ q=>q.elim) (fun _ _ _ _ _ _ _ _ _ _ _ _ _ _ _ _ q=>q.elim)<|h▸x;exact zw.start h0 H
def pL(E:Env)(n:Nat)(rs:List ResultVar)(R:AV->AS->Prop)(fr:AF)(s:AS):Prop:=Ev E.P (bg E.P E.sp E.F n) (fun aT jm s1=>∃v s2,finish E.P rs aT jm s1= .ok v s2/\R v s2) fr s
theorem Dv{E:Env}(hE:E.Ok)(uj:E.fg=false){f nt:Nat}{t:Tr AV}{K:List Item}{s:AS}{R:AV->AS->Prop}{C:zx}(hC:∀fr s p,C fr s p->pL E n rs R fr s)(fuel:Nat)(p:Pl)(x:T)(h:T=wp E fuel n (.fr f nt K t s) p rs (fun v s _=>R v s) C:=by as_aux_lemma=>kernel_rfl):pL E n rs R ⟨f,t,nt,K,[],none⟩ s:=CJ hE fuel n (.fr f nt K t s) p rs (fun v s _=>R v s) C (pL E n rs R) Chunk.ev (fun fr s j aT jm s1 v s2 p q1 q2 q3=>⟨j,aT,jm,s1,q1,v,s2,q2,q3⟩) hC (fun _ _ _ _ _ _ _ _ _ q=>by rw[uj] at q;cases q) (fun _ _ _ _ _ _ _ _ _ _ _ q=>by rw[uj] at q;cases q) (fun _ _ _ _ _ _ _ _ _ q=>by rw[uj] at q;cases q)<|h▸x
theorem pL.call{E:Env}{g:Nat}{fn:Func}{body:Code}{args:List AV}{s:AS}{R:AV->AS->Prop}(cm:E.P.funcs[g]? =some fn)(cv:fn.body=some body)(H:pL E n fn.results.toList R ⟨g,eh args,max fn.ntmps args.length,[.code body],[],none⟩ s)(h0:((fn.name == "runtime.NumGoroutine"),(E.sp g).isNone,Nat.ble (max fn.ntmps args.length) top)=(false,true,true):=by as_aux_lemma=>kernel_rfl):∃v s2,bg E.P E.sp E.F (n+1) (.fn g) args s= .ok v s2/\R v s2:=by
 injection h0 with dJ h0
 injection h0 with ug oH
 have ah5:E.sp g=none:=Option.isNone_iff_eq_none.1 ug;obtain⟨j,aT,jm,s1,q1,v,s2,q2,q3⟩:=H;refine⟨v,s2,?_,q3⟩;show ko E.P E.sp g (bg E.P E.sp E.F n) args s=_;rw[MU ah5 cm cv dJ];unfold uM;rw[oH,dB,M.bK<|HL q1];exact q2
end Go.Rn
namespace Go.Rn
open Go.RowKit
variable {α:Type} {l:List α} {i K:Nat} {enc:α->List AV} {c c0 c':α} {r:List AV}
theorem tfb{A B:Prop}(b:Bool)(x:b=true->A)(y:b=false->B):(b=true->A)/\(b=false->B):=⟨x,y⟩
theorem ke(he:∀x,(enc x).length=K)(hl:l.length*K<=top)(hc:l[i]? =some c)(j k:Nat)(hj:Nat.ble (j+k) K=true):cellsOf (some<|aN enc l) (i*K+j) k=some (((enc c).drop j).take k):=by have B1:=aL.1 hj;obtain⟨q1,q2⟩:=Ue he (k:=k) hc B1;show(match Nat.ble (i*K+j+k) (l.map enc).flatten.length with|true=>lr (Tr.fill (l.map enc).flatten 0 .nil) [] k (i*K+j)|false=>none)=_;rw[aL.2 q1];show lr (Tr.fill (l.map enc).flatten 0 .nil) [] k (i*K+j)=_;rw[LC (by rw[yA he];exact hl) _ _ q1,q2]
theorem acY(he:∀x,(enc x).length=K)(hl:l.length*K<=top)(hc:l[i]? =some c0)(j k:Nat)(hj:Nat.ble (j+k) K=true):cellsOf (some<|aN enc<|l.set i c) (i*K+j) k=some (((enc c).drop j).take k):=ke he (by rw[List.length_set];exact hl) (Tm hc) j k hj
theorem qc(he:∀x,(enc x).length=K)(hl:l.length*K<=top)(hc:l[i]? =some c)(j:Nat)(hr:enc c'=hZ (enc c) j r)(hj:Nat.ble (j+r.length) K=true)(h1:r.all AV.cj=true):xh (some<|aN enc l) (i*K+j) r=some (aN enc<|l.set i c'):=by
 have B1:=aL.1 hj;obtain⟨q1,_⟩:=Ue he (k:=r.length) hc B1;have Ga:=abA he hc hr B1;have hlen:(l.map enc).flatten.length<=top:=by rw[yA he];exact hl
 show(match (Nat.ble (i*K+j+r.length) (l.map enc).flatten.length&&(Nat.ble (l.map enc).flatten.length top&&r.all AV.cj)) with|true=>some (ae.cells (l.map enc).flatten.length (Tr.fill r (i*K+j)<|Tr.fill (l.map enc).flatten 0 .nil) [])|false=>none)=_;rw[show(Nat.ble (i*K+j+r.length) (l.map enc).flatten.length&&(Nat.ble (l.map enc).flatten.length top&&r.all AV.cj))=true from and_true.2 ⟨aL.2 q1,and_true.2 ⟨aL.2 hlen,h1⟩⟩];show some _=some _;congr 1;unfold aN;rw[Sz r _ _ q1 hlen,Ga,yA he,yA he,List.length_set]
theorem acZ(he:∀x,(enc x).length=K)(hl:l.length*K<=top)(hc:l[i]? =some c0)(j:Nat)(hr:enc c'=hZ (enc c) j r)(hj:Nat.ble (j+r.length) K=true)(h1:r.all AV.cj=true):xh (some<|aN enc<|l.set i c) (i*K+j) r=some (aN enc<|l.set i c'):=by rw[qc he (by rw[List.length_set];exact hl) (Tm hc) j hr hj h1,List.set_set]
end Go.Rn
namespace Go.Rn
open Go.RowKit
def Gk(nx:Nat)(x:AV):Bool:=match x with
 | .U n _ _=>Nat.blt n nx&&Nat.blt n top
 | .func (.func _) [] []=>true
 | .slice none 0 (.known 0)=>true
 |x=>x.flat
theorem bR.aav{r:Nat->Nat}{n o len:Nat}(e:r n=n)(h:n<top):bR r (.U n o len)<|.U n o len:=by intro ρ v k;simp only[VR] at k ⊢;exact k.imp id fun⟨b,sh,c,h1,h2⟩=>⟨b,sh,c,.inl ⟨by omega,(congrArg ρ e).trans<|h1.low aj⟩,h2⟩
theorem Tp{nx:Nat}{x:AV}{r:Nat->Nat}(r1:∀k,k<nx->r k=k)(h:Gk nx x=true):bR r x x:=by
 unfold Gk at h;split at h
 ·obtain⟨h1,h2⟩:=and_true.1 h;exact bR.aav (r1 _<|(blt_eq _ _).mp h1)<|(blt_eq _ _).mp h2
 ·intro ρ v k;simp only[VR,ay] at k ⊢;exact k
 ·exact bR.aby
 ·exact bR.flat h
noncomputable def Gl(nx:Nat)(t:Tr AV):Nat->Bool
 |0=>true
 |n+1=>(match t.get n with|some x=>Gk nx x|none=>true)&&Gl nx t n
theorem Ny{nx:Nat}{t:Tr AV}:∀{n i:Nat} {x:AV},Gl nx t n=true->i<n->t.get i=some x->Gk nx x=true
 |0,_,_,_,h,_=>by omega
 |n+1,i,x,h,hi,hx=>by
  obtain⟨h1,h2⟩:=and_true.1 (show((match t.get n with|some x=>Gk nx x|none=>true)&&Gl nx t n)=true from h);by_cases q:i=n
  ·subst q;rw[hx] at h1;exact h1
  ·exact Ny h2 aj hx
noncomputable def Pq(nx:Nat)(o:ae):Bool:=match o with
 | .ro n t=>Gl nx t n
 | .th n t=>Gl nx t n
 |_=>false
theorem abH{nx:Nat}{o:ae}{r:Nat->Nat}(r1:∀k,k<nx->r k=k)(h:Pq nx o=true):rC r o o:=by
 unfold Pq at h;split at h
 ·intro ρ N ob k;simp only[OR] at k ⊢;obtain⟨c,e,fr,k1,k2,k3,k4⟩:=k;exact⟨c,e,fr,k1,k2,k3,fun i hi=>let ⟨x,v,a1,a2,a3,a4⟩:=k4 i hi;⟨x,v,a1,a2,a3,Tp r1 (Ny h hi a1) ρ v a4⟩⟩
 ·intro ρ N ob k;simp only[OR] at k ⊢;obtain⟨c,e,fr,k1,k4⟩:=k;exact⟨c,e,fr,k1,fun i hi=>let ⟨x,v,a1,a2,a3,a4⟩:=k4 i hi;⟨x,v,a1,a2,a3,Tp r1 (Ny h hi a1) ρ v a4⟩⟩
 ·cases h
theorem H6{nx:Nat}{o:List<|Nat×Option ae}{r:Nat->Nat}(r1:∀k,k<nx->r k=k)(h:(o.all fun p=>match p.2 with|some x=>Pq nx x|none=>true)=true):∀p∈o,∀x,p.2=some x->rC r x x:=by intro p hp x hx;have:=List.all_eq_true.1 h p hp;rw[hx] at this;exact abH r1 this
end Go.Rn
namespace Go.Rn
theorem apI{α:Type}(enc:α->List AV)(l:List α)(c:α){K pM:Nat}{X:Prop}(h1:∀x,(enc x).length=K/\(enc x).all AV.cj=true)(h2:2*(l.length+1)*pM+4096*pM<=room)(h3:(l.length+1)*K<=Rn.top)(x:X):l.length=l.length/\l.length=l.length/\some (aN enc l)=some (aN enc l)/\some (ae.cells (enc c).length (Tr.fill (enc c) 0 .nil) [])=some (ae.cells (enc c).length (Tr.fill (enc c) 0 .nil) [])/\(∀x,(enc x).length=K/\(enc x).all AV.cj=true)/\2*(l.length+1)*pM+4096*pM<=room/\(l.length+1)*K<=Rn.top/\X:=⟨rfl,rfl,rfl,rfl,h1,h2,h3,x⟩
end Go.Rn
namespace Go.Rn
open Go.RowKit
variable {J K k:Nat} {α:Type} {ρ:aw} {v x:AV} {enc:α->List AV} {args cs:List AV} {w:World} {ns:List Nat} {h0 h:Tr ae} {B:aJ}
def ql:List Nat->Nat
 |[]=>0
 |x::l=>pr x<|ql l
theorem Va(a b:Nat):0<pr a b:=Nat.mul_pos (Nat.pow_pos aj) aj
theorem Mn:∀{l m:List Nat},ql l=ql m->l=m
 |[],[],_=>rfl
 |[],x::m,h=>by have:=Va x<|ql m;simp only[ql] at h;omega
 |x::l,[],h=>by have:=Va x<|ql l;simp only[ql] at h;omega
 |x::l,y::m,h=>by obtain⟨h1,h2⟩:=fI (show pr x (ql l)=pr y (ql m) from h);rw[h1,Mn h2]
def Bp:Int->Nat
 | .ofNat n=>2*n
 | .negSucc n=>2*n+1
theorem aaw:∀{a b:Int},Bp a=Bp b->a=b
 | .ofNat n,.ofNat m,h=>by have h:2*n=2*m:=h;rw[show n=m by omega]
 | .ofNat n,.negSucc m,h=>by have h:2*n=2*m+1:=h;omega
 | .negSucc n,.ofNat m,h=>by have h:2*n+1=2*m:=h;omega
 | .negSucc n,.negSucc m,h=>by have h:2*n+1=2*m+1:=h;rw[show n=m by omega]
def xk:AV->Nat
 | .bool b=>pr 0 b.toNat
 | .int k n=>pr 1<|pr k.ctorIdx<|Bp n
 | .str s=>pr 2<|ql<|s.data.toList.map UInt8.toNat
 | .U n o len=>pr 3<|pr n<|pr o len
 | .nilFunc=>pr 4 0
 | .nilIface=>pr 4 1
 | .ptr none=>pr 4 2
 | .map none=>pr 4 3
 |_=>0
def AV.gb(x:AV):Bool:=match x with
 | .bool _| .int _ _| .str _| .nilFunc| .nilIface| .ptr none| .map none=>true
 | .U n _ _=>Nat.ble top n
 |_=>false
theorem abI:∀{k l:IntKind},k.ctorIdx=l.ctorIdx->k=l:=by intro k l h;cases k<;>cases l<;>first|rfl|(exact absurd h iA)
theorem bytes_inj{s u:ByteArray}(h:s.data.toList.map UInt8.toNat=u.data.toList.map UInt8.toNat):s=u:=by
 have e:s.data.toList=u.data.toList:=by
  refine List.ext_getElem? fun i=>?_;have:=congrArg (fun l=>l[i]?) h;simp only[List.getElem?_map] at this;cases e1:s.data.toList[i]? with
  |none=>rw[e1] at this;cases e2:u.data.toList[i]? with
   |none=>rfl
   |some y=>rw[e2] at this;cases this
  |some x=>rw[e1] at this;cases e2:u.data.toList[i]? with
   |none=>rw[e2] at this;cases this
   |some y=>rw[e2] at this;simp only[Option.map_some,Option.some.injEq] at this;rw[UInt8.toNat_inj.1 this]
 obtain⟨⟨a⟩⟩:=s;obtain⟨⟨b⟩⟩:=u;have e:a=b:=e;rw[e]
theorem aax:∀{x y:AV},x.gb=true->y.gb=true->xk x=xk y->x=y:=by
 intro x y hx hy h;cases x<;>first|(cases hx;done)|skip
 case bool a=>
  cases y<;>first|(cases hy;done)|skip
  case bool b=>have:=(fI (show pr 0 a.toNat=pr 0 b.toNat from h)).2;cases a<;>cases b<;>first|rfl|(exact absurd this iA)
  case ptr b=>cases b<;>first|(cases hy;done)|(exact absurd (fI (show pr 0 a.toNat=pr 4 2 from h)).1 iA)
  case map b=>cases b<;>first|(cases hy;done)|(exact absurd (fI (show pr 0 a.toNat=pr 4 3 from h)).1 iA)
  all_goals exact absurd (fI (show pr 0 a.toNat=pr _ _ from h)).1 iA
 case int k n=>
  cases y<;>first|(cases hy;done)|skip
  case int k' n'=>obtain⟨h3,h4⟩:=fI (fI (show pr 1 (pr k.ctorIdx<|Bp n)=pr 1 (pr k'.ctorIdx<|Bp n') from h)).2;rw[abI h3,aaw h4]
  case ptr b=>cases b<;>first|(cases hy;done)|(exact absurd (fI (show pr 1 _=pr 4 2 from h)).1 iA)
  case map b=>cases b<;>first|(cases hy;done)|(exact absurd (fI (show pr 1 _=pr 4 3 from h)).1 iA)
  all_goals exact absurd (fI (show pr 1 _=pr _ _ from h)).1 iA
 case str u=>
  cases y<;>first|(cases hy;done)|skip
  case str u'=>rw[bytes_inj<|Mn (fI (show pr 2 _=pr 2 _ from h)).2]
  case ptr b=>cases b<;>first|(cases hy;done)|(exact absurd (fI (show pr 2 _=pr 4 2 from h)).1 iA)
  case map b=>cases b<;>first|(cases hy;done)|(exact absurd (fI (show pr 2 _=pr 4 3 from h)).1 iA)
  all_goals exact absurd (fI (show pr 2 _=pr _ _ from h)).1 iA
 case U n o l=>
  cases y<;>first|(cases hy;done)|skip
  case U n' o' l'=>obtain⟨h3,h4⟩:=fI (fI (show pr 3 (pr n<|pr o l)=pr 3 (pr n'<|pr o' l') from h)).2;obtain⟨h5,h6⟩:=fI h4;rw[h3,h5,h6]
  case ptr b=>cases b<;>first|(cases hy;done)|(exact absurd (fI (show pr 3 _=pr 4 2 from h)).1 iA)
  case map b=>cases b<;>first|(cases hy;done)|(exact absurd (fI (show pr 3 _=pr 4 3 from h)).1 iA)
  all_goals exact absurd (fI (show pr 3 _=pr _ _ from h)).1 iA
 case nilFunc=>
  cases y<;>first|(cases hy;done)|rfl|skip
  case ptr b=>cases b<;>first|(cases hy;done)|(exact absurd (fI (show pr 4 0=pr 4 2 from h)).2 iA)
  case map b=>cases b<;>first|(cases hy;done)|(exact absurd (fI (show pr 4 0=pr 4 3 from h)).2 iA)
  case nilIface=>exact absurd (fI (show pr 4 0=pr 4 1 from h)).2 iA
  all_goals exact absurd (fI (show pr 4 0=pr _ _ from h)).1 iA
 case nilIface=>
  cases y<;>first|(cases hy;done)|rfl|skip
  case ptr b=>cases b<;>first|(cases hy;done)|(exact absurd (fI (show pr 4 1=pr 4 2 from h)).2 iA)
  case map b=>cases b<;>first|(cases hy;done)|(exact absurd (fI (show pr 4 1=pr 4 3 from h)).2 iA)
  case nilFunc=>exact absurd (fI (show pr 4 1=pr 4 0 from h)).2 iA
  all_goals exact absurd (fI (show pr 4 1=pr _ _ from h)).1 iA
 case ptr a=>
  cases a<;>first|(cases hx;done)|skip
  cases y<;>first|(cases hy;done)|skip
  case ptr b=>cases b<;>first|(cases hy;done)|rfl
  case map b=>cases b<;>first|(cases hy;done)|(exact absurd (fI (show pr 4 2=pr 4 3 from h)).2 iA)
  case nilIface=>exact absurd (fI (show pr 4 2=pr 4 1 from h)).2 iA
  case nilFunc=>exact absurd (fI (show pr 4 2=pr 4 0 from h)).2 iA
  all_goals exact absurd (fI (show pr 4 2=pr _ _ from h)).1 iA
 case map a=>
  cases a<;>first|(cases hx;done)|skip
  cases y<;>first|(cases hy;done)|skip
  case ptr b=>cases b<;>first|(cases hy;done)|(exact absurd (fI (show pr 4 3=pr 4 2 from h)).2 iA)
  case map b=>cases b<;>first|(cases hy;done)|rfl
  case nilIface=>exact absurd (fI (show pr 4 3=pr 4 1 from h)).2 iA
  case nilFunc=>exact absurd (fI (show pr 4 3=pr 4 0 from h)).2 iA
  all_goals exact absurd (fI (show pr 4 3=pr _ _ from h)).1 iA
theorem RQ:∀{l m:List AV},l.all AV.gb=true->m.all AV.gb=true->l.map xk=m.map xk->l=m
 |[],[],_,_,_=>rfl
 |[],_::_,_,_,h=>by cases h
 |_::_,[],_,_,h=>by cases h
 |x::l,y::m,hx,hy,h=>by obtain⟨a1,a2⟩:=and_true.1 (show(x.gb&&l.all AV.gb)=true from hx);obtain⟨b1,b2⟩:=and_true.1 (show(y.gb&&m.all AV.gb)=true from hy);simp only[List.map_cons,List.cons.injEq] at h;rw[aax a1 b1 h.1,RQ a2 b2 h.2]
noncomputable section
def nm(cs:List AV):Nat:=top+2+ql (cs.map xk)
open Classical in
def FU(n:Nat):Option<|List AV:=if h:∃cs:List AV,cs.all AV.gb=true/\nm cs=n then some h.choose else none
def aX(enc:α->List AV)(l:List α):AV:=.U (nm (l.map enc).flatten) 0 l.length
end
theorem dU(cs:List AV):top<=nm cs:=Nat.le_trans (Nat.le_add_right top 2)<|Nat.le_add_right _ _
theorem zf(cs:List AV):nm cs≠top/\nm cs≠top+1:=by unfold nm;omega
theorem Dw(h:cs.all AV.gb=true):FU (nm cs)=some cs:=by have hx:∃ds:List AV,ds.all AV.gb=true/\nm ds=nm cs:=⟨cs,h,rfl⟩;unfold FU;rw[dif_pos hx];obtain⟨h1,h2⟩:=hx.choose_spec;exact congrArg some<|RQ h1 h<|Mn (by have h3:top+2+ql (hx.choose.map xk)=top+2+ql (cs.map xk):=h2;omega)
theorem HN(h:x.gb=true):x.cj=true:=by cases x<;>first|rfl|(cases h;done)
theorem CK(h:x.gb=true):x.bZ=true:=by
 cases x<;>first|rfl|(cases h;done)|skip
 ·rename_i a;cases a with
  |none=>rfl
  |some _=>cases h
 ·exact h
 ·rename_i a;cases a with
  |none=>rfl
  |some _=>cases h
theorem aeO(h:cs.all AV.gb=true){off:Nat}(hk:off+k<=cs.length):cX FU (nm cs) off k=some ((cs.drop off).take k):=by unfold cX;rw[Dw h];simp only[(aL.2 hk:Nat.ble (off+k) cs.length=true)]
structure ng {α:Type} (K:Nat) (enc:α->List AV):Prop where
 len:∀a,(enc a).length=K
 gb:∀a,(enc a).all AV.gb=true
theorem ng.all(h:ng K enc):∀l:List α,(l.map enc).flatten.all AV.gb=true
 |[]=>rfl
 |a::l=>by rw[List.map_cons,List.flatten_cons,List.all_append,h.gb a,ng.all h l];rfl
theorem ng.length(h:ng K enc)(l:List α):(l.map enc).flatten.length=l.length*K:=by
 have:=sq (K:=K) (l:=l.map enc) fun c hc=>by obtain⟨a,_,rfl⟩:=List.mem_map.1 hc;exact h.len a
 rw[this,List.length_map]
theorem C4(h:ng K enc){l:List α}{i:Nat}{a:α}(ha:l[i]? =some a)(j k:Nat)(hk:j+k<=K):cX FU (nm (l.map enc).flatten) (i*K+j) k=some (((enc a).drop j).take k):=by
 have hi:=(List.getElem?_eq_some_iff.1 ha).1;have hle:i*K+K<=(l.map enc).flatten.length:=by rw[h.length];have:=Nat.mul_le_mul_right K (show i+1<=l.length from hi);rw[Nat.add_mul,Nat.one_mul] at this;exact this
 rw[aeO (h.all l) aj];have hf:=LK (l:=l.map enc) (K:=K) (i:=i) (c:=enc a) (fun c hc=>by obtain⟨a,_,rfl⟩:=List.mem_map.1 hc;exact h.len a) (by rw[List.getElem?_map,ha];rfl);have hd:((l.map enc).flatten.drop<|i*K+j).take k=((((l.map enc).flatten.drop<|i*K).take K).drop j).take k:=by rw[List.drop_take,List.take_take,List.drop_drop,Nat.min_eq_left aj]
 rw[hd,hf]
def gg(J:Nat)(ρ:aw):aw:=fun k=>if k<J then ρ k else gj ρ k
def rp(B:aJ)(ρ:aw)(w:World):aJ:=⟨fun k=>w.heap.size<=k,B.F,fun k=>ρ k≠none,B.inv,B.dL,B.mono⟩
theorem sH(ht:J<=top)(hk:top<=k):gg J ρ k=ρ k:=by unfold gg gj;rw[if_neg aj,if_pos hk]
noncomputable section
def o8(J:Nat)(ns:List Nat)(h0:Tr ae)(val:List AV->Option AV):aI->List AV->M AV:=fun _ args=>aF (args.all AV.hi) <| (fH J h0 ns).bind fun _=>aA (val args) fun v=>aF v.hi <| M.pure v
end
theorem Yd.o8(J:Nat)(ns:List Nat)(h0:Tr ae)(val:List AV->Option AV)(Ye:aI)(args:List AV):Yd<|o8 J ns h0 val Ye args:=Yd.aF fun _=>Yd.bind (Yd.fH J h0 ns) fun _=>Yd.aA fun _ _=>Yd.aF fun _=>Yd.pure _
theorem Hu{o p:ae}(h:oo J o p=true):o.mK=true:=by unfold oo at h;split at h<;>first|rfl|cases h
theorem Dx(ht:J<=top)(r:Rel B ρ h w)(dK:∀n o,n<top->h0.get n=some o->n∈ns)(dm:∀n∈ns,n<J)(a3:∀n∈ns,∃o p,h.get n=some o/\h0.get n=some p/\oo J o p=true):Rel (rp B ρ w) (gg J ρ) h0 w:=by
 have cw:∀n o,n<top->h0.get n=some o->o.mK=true/\∃b N o',gg J ρ n=some (b,N)/\w.heap[b]? =some o'/\OR (gg J ρ) N o o':=by
  intro n o hn ho;have iK:=dK n o hn ho;obtain⟨p1,p2,c2,c3,c4⟩:=a3 n iK;rw[ho] at c3;cases c3;obtain⟨b,N,o',i1,i2,i3,_⟩:=r.is n p1 hn c2;obtain⟨j1,j2⟩:=ZA c4 i3;refine⟨j1,b,N,o',?_,i2,j2.mono fun k x e=>?_⟩
  ·unfold gg;rw[if_pos<|dm n iK];exact i1
  ·have e:(if k<J then ρ k else none)=some x:=e;unfold gg;split at e
   ·rename_i q;rw[if_pos q];exact e
   ·cases e
 refine⟨fun n o hn ho=>?_,fun n m o p b N M hn hm h1 h2 cS _ _=>?_,fun n m es ex left cur hn ho=>?_,fun _ hk=>hk,fun i j m es ex left cur g9 ju iS iV hi _ h1 _=>?_,fun n b sh e=>?_,tV.no (fun n k v hn hg=>by have:=(cw n _ hn hg).1;cases this) ⟨r.tk.1.1,fun n o hn ho _=>by have iK:=dK n o hn ho;obtain⟨p1,p2,c2,c3,c4⟩:=a3 n iK;rw[ho] at c3;cases c3;obtain⟨b,N,e1,e2⟩:=r.tk.1.2 n p1 hn c2<|Hu c4;exact⟨b,N,by unfold gg;rw[if_pos<|dm n iK];exact e1,e2⟩⟩⟩
 ·obtain⟨h1,b,N,o',h2,h3,h4⟩:=cw n o hn ho;have h1:=ae.j9 h1;exact⟨b,N,o',h2,h3,h4,fun q=>by rw[h1] at q;cases q⟩
 ·have e1:=ae.j9 (cw n o hn h1).1;have e2:=ae.j9 (cw m p hm h2).1;rw[e1,e2] at cS;rcases cS with q|q<;>cases q
 ·have:=(cw n _ hn ho).1;cases this
 ·have:=(cw i _ hi h1).1;cases this
 ·rw[sH ht<|fZ _ _ _] at e;obtain⟨_,l,c,e',fr,g1,g2,g3,g4⟩:=r.fz n b sh e;refine⟨.inl e,l,c,e',fr,g1,g2,fun m o N hm ho hr _=>?_,fun i x hx=>?_⟩
  ·rw[ae.j9 (cw m o hm ho).1] at hr;cases hr
  ·obtain⟨v,k1,k2,k3⟩:=g4 i x hx;refine⟨v,k1,VR.mono (fun k y q=>?_) _ _ k2,k3⟩;unfold gj at q ⊢;split at q
   ·rename_i hk;rw[if_pos hk,sH ht hk];exact q
   ·cases q
def cG(ρ σ:aw):aw:=fun k=>if top<=k then σ k else ρ k
theorem I6{σ:aw}{h4:Tr ae}{w':World}{a:Nat}(ht:J<=top)(r:Rel B ρ h w)(q3:Rel (rp B ρ w) σ h4 w')(q4:cH (rp B ρ w) w w')(hle:(gg J ρ).le σ):
 Ext a a ρ (cG ρ σ)/\jq σ (cG ρ σ)/\Rel B (cG ρ σ) h w'/\cH B w w':=by
 have hold:∀k x,top<=k->ρ k=some x->σ k=some x:=fun k x hk e=>hle k x (by rw[sH ht hk];exact e);have hl:ρ.le<|cG ρ σ:=by
  intro k x e;unfold cG;by_cases hk:top<=k
  ·rw[if_pos hk];exact hold k x hk e
  ·rw[if_neg hk];exact e
 have cR:∀k,k<top->cG ρ σ k=ρ k:=fun k hk=>by unfold cG;rw[if_neg aj]
 have BB:cH B w w':=⟨q4.os,q4.tape,q4.output,q4.size,fun k hk _=>q4.block k hk (by show ¬(w.heap.size<=k);omega)⟩;have JL:∀b,b<w.heap.size->w'.heap[b]? =w.heap[b]? :=fun b hb=>q4.block b hb (by show ¬(w.heap.size<=b);omega);refine⟨⟨hl,fun k hk _=>cR k hk⟩,fun k x hk e=>by unfold cG;rw[if_pos hk];exact e,⟨?_,?_,?_,fun k hk=>r.size k<|Nat.le_trans q4.size hk,r.lone,?_,r.tk.of hl (fun _ _ _ e _=>e) q4.size (fun b hb _=>JL b hb) (fun b1 _ hn m o N hm ho hr hb=>hn m o N hm ho hr (by rw[cR m hm] at hb;exact hb)) (fun j x sh hx _ e=>by
  unfold cG;rw[if_pos<|fZ _ _ _];refine Classical.byContradiction fun q=>?_;rcases(q3.fz j x sh q).1 with z|z
  ·exact z e
  ·exact absurd hx (by have z:w.heap.size<=x:=z;omega))⟩,BB⟩
 ·intro n o hn ho;obtain⟨b,N,o',h1,h2,h3,h5⟩:=r.is n o hn ho;exact⟨b,N,o',(cR n hn).trans h1,(JL b<|gR h2).trans h2,h3.mono hl,h5⟩
 ·intro n m o p b N M hn hm h1 h2 cS e1 e2;rw[cR n hn] at e1;rw[cR m hm] at e2;exact r.one n m o p b N M hn hm h1 h2 cS e1 e2
 ·intro n m es ex left cur hn ho;obtain⟨hm,fC,b,N,bm,M,l,aO,seen,h1,h2,h3,h5,h6⟩:=r.iter n m es ex left cur hn ho;have u:ox ρ w' n m es ex left cur:=⟨b,N,bm,M,l,aO,seen,h1,h2,(JL b<|gR h3).trans h3,(JL bm<|gR h5).trans h5,h6⟩;exact⟨hm,fC,u.mono hl⟩
 ·intro n b sh e;have e:σ (hn n b sh)≠none:=by unfold cG at e;rw[if_pos<|fZ _ _ _] at e;exact e
  obtain⟨g0,l,c,e',fr,g1,g2,_,g4⟩:=q3.fz n b sh e;have gH:(gj σ).le<|gj<|cG ρ σ:=by
   intro k x q;unfold gj at q ⊢;split at q
   ·rename_i hk;rw[if_pos hk];unfold cG;rw[if_pos hk];exact q
   ·cases q
  have mI:∀i x,l[i]? =some x->∃v,c[sh+i]? =some v/\VR (gj<|cG ρ σ) x v/\x.cj=true:=fun i x hx=>by obtain⟨v,k1,k2,k3⟩:=g4 i x hx;exact⟨v,k1,VR.mono gH _ _ k2,k3⟩
  by_cases q:ρ (hn n b sh)≠none
  ·obtain⟨z0,l',c',e2,jY,z1,z2,z3,_⟩:=r.fz n b sh q;refine⟨z0,l,c,e',fr,g1,g2,fun m o N hm ho hr hb=>?_,mI⟩;rw[cR m hm] at hb;exact z3 m o N hm ho hr hb
  ·have hb:w.heap.size<=b:=g0.resolve_left q;refine⟨.inr<|r.size b hb,l,c,e',fr,g1,g2,fun m o N hm ho hr gm=>?_,mI⟩;rw[cR m hm] at gm;obtain⟨b1,N1,o1,h1,h2,_⟩:=r.is m o hm ho;rw[gm] at h1;cases h1;have:=gR h2;omega
noncomputable section
def bf(val:List AV->Option AV)(args:List AV):Option AV:=match args.all AV.hi with
 |true=>(val args).bind fun v=>match v.hi with
  |true=>some v
  |false=>none
 |false=>none
end
theorem fA{val:List AV->Option AV}(h:val args=some v)(ha:args.all AV.hi=true)(hv:v.hi=true):bf val args=some v:=by unfold bf;rw[ha,h];simp only[Option.bind_some,hv]
theorem abJ{val:List AV->Option AV}(h:bf val args=some v):val args=some v/\args.all AV.hi=true/\v.hi=true:=by
 unfold bf at h;split at h
 ·rename_i ha;cases e:val args with
  |none=>rw[e] at h;cases h
  |some u=>
   rw[e] at h;simp only[Option.bind_some] at h;split at h
   ·rename_i hu;injection h with h;subst h;exact⟨rfl,ha,hu⟩
   ·cases h
 ·cases h
theorem aay{val:List AV->Option AV}{Ye:aI}{s:AS}(h:bf val args=some v)(hc:qB J h0 ns s=true):o8 J ns h0 val Ye args s= .ok v (dP J h0 ns s):=by obtain⟨h1,h2,h3⟩:=abJ h;unfold o8;rw[h2,dB,M.bK<|wY hc,h1,cf,h3,dB];rfl
end Go.Rn
namespace Go.Rn
open Go.RowKit
variable {n:Nat} {o:Option ae}
noncomputable def ln(n:Nat)(o:Option ae):M Unit:=fun s=>
 @AS.rec (fun _=>R Unit) (fun h nx mark rd wr=>
  @Bool.rec (fun _=>R Unit) .bad
   (@Option.rec ae (fun _=>R Unit) .bad
    (fun p=> @Bool.rec (fun _=>R Unit)
     (@Bool.rec (fun _=>R Unit) (.ok () ⟨h.put n o,nx,mark,rd,wr⟩) (.ok () ⟨h.put n o,nx,mark,n::rd,n::wr⟩)<|Nat.blt n mark)
     .bad (!p.kZ))
    (h.get n))
   (and (Nat.blt n nx)<|Nat.blt n top)) s
theorem Ug{u:Unit}{s s1:AS}(h:ln n o s= .ok u s1):
 n<s.nx/\n<top/\(∃p,s.h.get n=some p/\(!p.kZ)=false)/\s1=if n<s.mark then{s with h:=s.h.put n o,rd:=n::s.rd,wr:=n::s.wr} else{s with h:=s.h.put n o}:=by
 obtain⟨hh,nx,mark,rd,wr⟩:=s;have e:ln n o ⟨hh,nx,mark,rd,wr⟩= @Bool.rec (fun _=>R Unit) .bad
  (@Option.rec ae (fun _=>R Unit) .bad
   (fun p=> @Bool.rec (fun _=>R Unit)
    (@Bool.rec (fun _=>R Unit) (.ok () ⟨hh.put n o,nx,mark,rd,wr⟩) (.ok () ⟨hh.put n o,nx,mark,n::rd,n::wr⟩)<|Nat.blt n mark)
    .bad (!p.kZ))
   (hh.get n))
  (and (Nat.blt n nx)<|Nat.blt n top):=rfl
 rw[e] at h;cases hb:and (Nat.blt n nx) (Nat.blt n top) with
 |false=>rw[hb] at h;cases h
 |true=>
  rw[hb] at h;have gm:=Bool.and_eq_true_iff.1 hb;rw[blt_eq,blt_eq] at gm;cases hg:hh.get n with
  |none=>rw[hg] at h;cases h
  |some p=>
   rw[hg] at h;cases hr:(!p.kZ) with
   |true=>
    have h': @Bool.rec (fun _=>R Unit)
     (@Bool.rec (fun _=>R Unit) (.ok () ⟨hh.put n o,nx,mark,rd,wr⟩) (.ok () ⟨hh.put n o,nx,mark,n::rd,n::wr⟩)<|Nat.blt n mark)
     .bad (!p.kZ)= .ok u s1:=h
    rw[hr] at h';cases h'
   |false=>
    have h': @Bool.rec (fun _=>R Unit)
     (@Bool.rec (fun _=>R Unit) (.ok () ⟨hh.put n o,nx,mark,rd,wr⟩) (.ok () ⟨hh.put n o,nx,mark,n::rd,n::wr⟩)<|Nat.blt n mark)
     .bad (!p.kZ)= .ok u s1:=h
    rw[hr] at h';refine⟨gm.1,gm.2,⟨p,by first|exact hg|rfl,hr⟩,?_⟩;have tY: @Bool.rec (fun _=>R Unit) (.ok () ⟨hh.put n o,nx,mark,rd,wr⟩) (.ok () ⟨hh.put n o,nx,mark,n::rd,n::wr⟩) (Nat.blt n mark)= .ok u s1:=h';rw[yG] at tY;by_cases e:n<mark
    ·rw[if_pos e] at tY;injection tY with _ h3;simp[e, ←h3]
    ·rw[if_neg e] at tY;injection tY with _ h3;simp[e, ←h3]
theorem Vb{s:AS}{p:ae}(h1:n<s.nx)(h2:n<top)(h3:s.h.get n=some p)(h4:(!p.kZ)=false):
 ln n o s= .ok () (if n<s.mark then{s with h:=s.h.put n o,rd:=n::s.rd,wr:=n::s.wr} else{s with h:=s.h.put n o}):=by
 obtain⟨hh,nx,mark,rd,wr⟩:=s;have e:ln n o ⟨hh,nx,mark,rd,wr⟩= @Bool.rec (fun _=>R Unit) .bad
  (@Option.rec ae (fun _=>R Unit) .bad
   (fun p=> @Bool.rec (fun _=>R Unit)
    (@Bool.rec (fun _=>R Unit) (.ok () ⟨hh.put n o,nx,mark,rd,wr⟩) (.ok () ⟨hh.put n o,nx,mark,n::rd,n::wr⟩)<|Nat.blt n mark)
    .bad (!p.kZ))
   (hh.get n))
  (and (Nat.blt n nx)<|Nat.blt n top):=rfl
 have hb:and (Nat.blt n nx) (Nat.blt n top)=true:=Bool.and_eq_true_iff.2 ⟨by rw[blt_eq];exact h1,by rw[blt_eq];exact h2⟩;have hg:hh.get n=some p:=h3;rw[e,hb,hg];show @Bool.rec (fun _=>R Unit) (@Bool.rec (fun _=>R Unit) (.ok () ⟨hh.put n o,nx,mark,rd,wr⟩) (.ok () ⟨hh.put n o,nx,mark,n::rd,n::wr⟩)<|Nat.blt n mark) .bad (!p.kZ)=_;rw[h4];show @Bool.rec (fun _=>R Unit) (.ok () ⟨hh.put n o,nx,mark,rd,wr⟩) (.ok () ⟨hh.put n o,nx,mark,n::rd,n::wr⟩) (Nat.blt n mark)=_;rw[yG];by_cases e:n<mark<;>simp[e]
theorem Yd.ln(n:Nat)(o:Option ae):Yd<|ln n o:=by
 intro s v s1 fi h;obtain⟨h1,ht,⟨p,h2,h3⟩,rfl⟩:=Ug h;by_cases e:n<s.mark
 ·rw[if_pos e];refine⟨[n],[n],⟨rfl,rfl,Nat.le_refl _,fi.nx,rfl,fun k hk hn=>?_,fun _ h=>h,fun k hk gp=>?_⟩,fun A m0 t ag hA=>?_⟩
  ·show(s.h.put n o).get k=_;rw[Tr.dk _ _ _ _ ht (by have:=fi.mark;have:=fi.nx;omega),if_neg<|by simpa using hn]
  ·show(s.h.put n o).get k=_;have:s.nx<=k:=hk;rw[Tr.dk _ _ _ _ ht gp,if_neg aj]
  ·have hq:A n\/m0<=n:=by
    by_cases q:n<m0
    ·exact .inl<|hA n iJ q
    ·exact .inr aj
   have hg:=ag.is n h1 hq;have hr:=Vb (o:=o) (s:=t) (n:=n) (p:=p) D7 ht D8 h3;rw[←ag.mark,if_pos e] at hr;refine⟨_,hr,⟨ag.nx,by first|exact ag.mark|rfl,ag.low,fun k hk hq=>?_⟩,rfl,rfl,fun k hk hn=>?_,fun k hk gp=>?_⟩
   ·show(s.h.put n o).get k=(t.h.put n o).get k;have GI:k<s.nx:=hk;have:=fi.nx;rw[Tr.dk _ _ _ _ ht aj,Tr.dk _ _ _ _ ht aj];by_cases q:k=n
    ·simp[q]
    ·rw[if_neg q,if_neg q];exact ag.is k hk hq
   ·show(t.h.put n o).get k=_;have:=fi.mark;have:=fi.nx;have:=ag.low;rw[Tr.dk _ _ _ _ ht aj,if_neg<|by simpa using hn]
   ·show(t.h.put n o).get k=_;have:s.nx<=k:=hk;rw[Tr.dk _ _ _ _ ht gp,if_neg aj]
 ·rw[if_neg e];refine⟨[],[],⟨rfl,rfl,Nat.le_refl _,fi.nx,rfl,fun k hk hn=>?_,fun _ h=>h,fun k hk gp=>?_⟩,fun A m0 t ag hA=>?_⟩
  ·show(s.h.put n o).get k=_;have:=fi.mark;have:=fi.nx;rw[Tr.dk _ _ _ _ ht aj,if_neg aj]
  ·show(s.h.put n o).get k=_;have:s.nx<=k:=hk;rw[Tr.dk _ _ _ _ ht gp,if_neg aj]
  ·have hg:=ag.is n h1<|.inr<|Nat.le_trans ag.low aj;have hr:=Vb (o:=o) (s:=t) (n:=n) (p:=p) D7 ht D8 h3;rw[←ag.mark,if_neg e] at hr;refine⟨_,hr,⟨ag.nx,by first|exact ag.mark|rfl,ag.low,fun k hk hq=>?_⟩,rfl,rfl,fun k hk hn=>?_,fun k hk gp=>?_⟩
   ·show(s.h.put n o).get k=(t.h.put n o).get k;have GI:k<s.nx:=hk;have:=fi.nx;rw[Tr.dk _ _ _ _ ht aj,Tr.dk _ _ _ _ ht aj];by_cases q:k=n
    ·simp[q]
    ·rw[if_neg q,if_neg q];exact ag.is k hk hq
   ·show(t.h.put n o).get k=_;have:=fi.mark;have:=fi.nx;have:=ag.low;rw[Tr.dk _ _ _ _ ht aj,if_neg aj]
   ·show(t.h.put n o).get k=_;have:s.nx<=k:=hk;rw[Tr.dk _ _ _ _ ht gp,if_neg aj]
section
variable {P:Program} {B:aJ} {ρ:aw} {w:World} {s s1 s2:AS} {Ye:aI}
theorem au.FC{pG:Nat}(hP:bE P){g:FuncId}{fn:Func}{body:Code}{args:List AV}{vs:Array Value}{R:AV->AS->Prop}(cm:P.funcs[g]? =some fn)(cv:fn.body=some body)(oH:max fn.ntmps args.length<=top)(H:au P B pG (Fin P fn.results.toList R) ⟨g,eh args,max fn.ntmps args.length,[.code body],[],none⟩ s)(fi:bx s)(r:Rel B ρ s.h w)(hg:gd ρ)(hf:∀k,s.nx<=k->k<top->ρ k=none)(hv:ay ρ args vs.toList):
 Calls P g vs w fun e w'=>∃v x s3,e= .returned v/\R x s3/\bx s3/\∃σ,(∀k,k<pG->k<top->σ k=ρ k)/\(∀k x,top<=k->ρ k=some x->σ k=some x)/\VR σ x v/\Rel B σ s3.h w'/\cH B w w':=by
 intro cs;let b:Frame:={(default:Frame) with fn:=g,kind:=.normal,roundOf:=none};let a:Act:={tmps:=vs++Array.replicate (fn.ntmps - vs.size) undef,defers:=[]};have sQ:Frame.enter P g vs .normal=b.atR a [.code body]:=by simp[Frame.enter,Frame.atR,cm,cv,b,a]
 have bM:Fr ρ ⟨g,eh args,max fn.ntmps args.length,[.code body],[],none⟩ b a:=⟨rfl,rfl,trivial,rfl,.cons (hP.code g fn body cm cv) .nil⟩;have aD:At B ρ s (max fn.ntmps args.length) (eh args) w a:=⟨Hk hv _ oH,r,hg,oH,fi⟩;obtain⟨fr,j,s2,σ,a',w',⟨x,s3,pq,hR⟩,en,e0,GX,e1,e2,e3,e4,e5,e6,e7,e8⟩:=H ρ w b a cs bM aD hf;have OK:finish P fn.results.toList fr j s2= .ok x s3:=by rw[ET];exact pq
 have zU:bx s2:=e2.cJ;obtain⟨hj,u2,s4,rs,h7,h9,hx⟩:=Hy OK;have mU:bx s4:=(Yd.oh _).cJ zU h7;have nj:Leaves j fr.todo:=e7;obtain⟨d1,d2,w2,d3,d4,d5⟩:=EG (P:=P) (fr:=b) (cs:=cs) zU e2.rel e3 h7;obtain⟨f1,f2,us,f3,f4⟩:=EF (P:=P) (w:=w2) e2.tr mU d3 h9;have lG:bx s3:=(Yd.pV P fr.tmps _).cJ mU h9;have BA:Steps P (lone (b.atR a' fr.todo) cs w')<|lone {b.atR a' fr.todo with mode:=.returning} cs w':=by
  rcases hj with rfl|rfl
  ·have e:fr.todo=[]:=nj;rw[e];exact .one<|stepR_end rfl
  ·obtain⟨k,e⟩:=nj;rw[e];exact .one<|stepR_ret rfl
 have tA:=d5 {b.atR a' fr.todo with mode:=.returning} cs iJ rfl;have kD:(results fn a'.tmps).run P w2= .ok (mg us) w2:=by
  unfold results;rw[Array.mapM_eq_mapM_toList];simp only[Sem.run_bind,map_eq_pure_bind,Sem.run_pure];refine Eq.trans (congrArg (fun r:Result (List Value)=>(r.andThen fun a w'=>Result.ok a.toArray w').andThen fun a w'=>Result.ok (if h:a.size=1 then a[0] else Value.tuple a) w') f3) ?_;have:∀l:List Value,(Result.ok (if h:l.toArray.size=1 then l.toArray[0] else Value.tuple l.toArray) w2:Result Value)= .ok (mg l) w2:=by
   intro l
   match l with
   |[]=>rfl
   |[v]=>rfl
   |v::v2::l=>simp[mg]
  exact this us
 refine⟨.returned<|mg us,w2,{b.atR a' fr.todo with mode:=.returning,defers:=[]},⟨_,x,s3,rfl,hR,lG,σ,e0,GX,?_⟩,?_,rfl,?_⟩
 ·exact⟨by rw[hx];exact HK f4,by rw[f1];exact d3,e4.trans d4⟩
 ·rw[sQ];exact Steps.trans e8<|Steps.trans BA tA
 ·exact⟨rfl,rfl,rfl,fn,cm,kD⟩
end
abbrev TX:=Nat->AV->List (Nat×ae)->Prop
def xO(loc ρ:aw):aw:=fun m=>if top<=m then ρ m else loc m
theorem aaz{loc ρ σ:aw}(h:∀m x,top<=m->ρ m=some x->σ m=some x):(xO loc ρ).le<|xO loc σ:=by
 intro k x e;unfold xO at e ⊢;split at e
 ·rename_i q;rw[if_pos q];exact h k x q e
 ·rename_i q;rw[if_neg q];exact e
inductive nK (X:TX) (J:Nat):Nat->AV->aw->World->Nat->(Nat->Prop)->Prop where
 | mk {k:Nat} {v:AV} {ρ:aw} {w:World} {b:Nat} {H:Nat->Prop} (L:List<|Nat×ae) (loc:aw) (bl:Nat->Nat) (H1:Nat->Nat->Prop) (N0:Nat)
   (hx:X k v L) (root:loc J=some (b,N0)) (low:∀m,m<J->loc m=none)
   (is:∀m o,(m,o)∈L->∃N o',loc m=some (bl m,N)/\w.heap[bl m]? =some o'/\OR (xO loc ρ) N o o'/\H (bl m))
   (one:∀m n o p,(m,o)∈L->(n,p)∈L->bl m=bl n->m=n)
   (tok:∀m k' v',(m,ae.tok k' v')∈L->nK X J k' v' ρ w (bl m) (H1 m))
   (JM:∀m k' v',(m,ae.tok k' v')∈L->H1 m (bl m))
   (sub:∀m k' v',(m,ae.tok k' v')∈L->∀x,H1 m x->H x)
   (own:∀m k' v' n o,(m,ae.tok k' v')∈L->(n,o)∈L->o.kZ=false->¬H1 m (bl n))
   (apart:∀m k' v' n KO vU x,(m,ae.tok k' v')∈L->(n,ae.tok KO vU)∈L->m≠n->H1 m x->¬H1 n x):nK X J k v ρ w b H
theorem nK.mono{X:TX}{J k:Nat}{v:AV}{ρ:aw}{w:World}{b:Nat}{H:Nat->Prop}(h:nK X J k v ρ w b H):∀{σ:aw} {w':World},(∀m x,top<=m->ρ m=some x->σ m=some x)->(∀x,H x->w'.heap[x]? =w.heap[x]?)->nK X J k v σ w' b H:=by
 induction h with
 |mk L loc bl H1 N0 hx root low is one tok JM sub own apart ih=>intro σ w' hm hw;refine .mk L loc bl H1 N0 hx root low (fun m o ui=>?_) one (fun m k' v' ui=>ih m k' v' ui hm fun x q=>hw x<|sub m k' v' ui x q) JM sub own apart;obtain⟨N,o',a1,a2,a3,a4⟩:=is m o ui;exact⟨N,o',a1,(hw _ a4).trans a2,a3.mono<|aaz hm,a4⟩
def lv(ns:List Nat)(o:ae):Prop:=∀(σ:aw) (N:Nat) (o':Obj),OR σ N o o'->OR (fun m=>if top<=m\/m∈ns then σ m else none) N o o'
structure ye (X:TX) (J:Nat):Prop where
 nm:∀k v L,X k v L->∀p∈L,J<=p.1/\p.1<top/\(p.2.own=true\/p.2.kZ=true)/\lv (L.map (·.1)) p.2
 root:∀k v L,X k v L->∃o,(J,o)∈L
theorem Mo:∀{L:List<|Nat×ae},(∀p∈L,p.1<n)->∀p∈bu L,p.1<n
 |[],_,p,hp=>by cases hp
 |a::l,h,p,hp=>by
  rcases List.mem_cons.1 hp with rfl|hp
  ·exact h a List.mem_cons_self
  ·exact Mo (fun q hq=>h q<|List.mem_cons_of_mem _ hq) p hp
end Go.Rn
