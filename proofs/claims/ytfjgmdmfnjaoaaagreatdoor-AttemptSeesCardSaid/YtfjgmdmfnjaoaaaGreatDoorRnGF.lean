import Derived.Test.YtfjgmdmfnjaoaaaGreatDoorRnGE
set_option maxRecDepth 100000
set_option maxHeartbeats 8000000
set_option linter.unusedSimpArgs false
set_option linter.unusedVariables false
namespace Go.Rn
open Go.RowKit
variable {v:AV} {n k J o off:Nat} {x:TypeId×Operand×Operand} {cs:List AV} {α:Type} {B:aL} {rs:List ResultVar} {ik:IntKind} {cap:cC} {ag b:Bool} {a:Nat×Nat} {T A c X:Prop} {x':dx} {ty:TypeId} {sp:Sp} {l:List<|Nat×AV} {Q:Tr AV->List Nat->Option Code->AS->Prop} {F:Nat->Option (List AV)}
noncomputable section
inductive Pl where
 |no
 |st (k:Nat) (p:Pl)
 |rg (p:Pl)
 |go (n:Nat) (p:Pl)
 |en (p:Pl)
 |fk (p q:Pl)
 |vl (v:AV) (p:Pl)
 |kn (v:AV) (p:Pl)
 |kp (c:Prop) (d:Decidable c) (p q:Pl)
 |cu (v:AV) (s2:AS) (p:Pl)
 |cg (v:AV) (F:AS->AS) (Q:AS->Prop) (p:Pl)
 |ap (α:Type) (enc:α->List AV) (l:List α) (c:α) (p:Pl)
 |al (α:Type) (enc:α->List AV) (l L:List α) (p:Pl)
 |ix (p:Pl)
 |fh (p:Pl)
 |ld (cs:List AV) (p:Pl)
 |XO (b:Bool) (p q:Pl)
 |fj (cs:List AV) (p:Pl)
 |lh (o:ab) (p:Pl)
 |rm (p:Pl)
 |ls (l:List<|Nat×AV) (o:List<|Nat×Option ab) (nx:Nat) (p:Pl)
 |rn (l0:List<|Nat×AV) (o0:List<|Nat×Option ab) (l:List<|Nat×AV) (o:List<|Nat×Option ab) (bz nx:Nat) (p:Pl)
 |bk (l:List<|Nat×AV) (o:List<|Nat×Option ab) (nx:Nat) (p:Pl)
 |cy (v:AV) (s2:AS) (p:Pl)
 |Hv (p:Pl)
 |kt (y v':AV) (p:Pl)
 |nt (v:Option AV) (res:AV->AV) (p:Pl)
 |XP (m:List<|Int×Int) (p q:Pl)
 |Lh (m:List<|Int×Int) (p:Pl)
 |so (p:Pl)
 |s3 (p:Pl)
 |ao (L1 L2 l:List AV) (p:Pl)
 |an (L1 L2 l:List AV) (p:Pl)
 |il (p:Pl)
 |rt (k:Nat) (p:Pl)
 |cut (p:Pl)
inductive Li where
 |fr (f nt:Nat) (K:List Item) (t:Tr AV) (s:AS)
 |rg (f nt:Nat) (K:List Item) (ops:Array Oper) (D:Option<|List dx) (i:Nat) (t:Tr AV) (s:AS)
structure Env where
 P:Program
 sp:Sp
 F:Nat->Option (List AV)
 n7:FuncId->Option (List AV->Option AV)
 jn:FuncId->Bool
 ck:AS->Bool
 cs:AS->AS
 lo:Nat
 fg:Bool
 tt:FuncId->Option (Nat×(AV->List AV->Option (AV×AV)))
 tn:FuncId->Option (Nat×(List AV->Option (Option AV×(AV->AV))))
 n0:Nat
def xX(nx:Nat)(l:List<|Nat×AV)(o:List<|Nat×Option ab):Prop:=∀r:Nat->Nat,(∀k,k<nx->r k=k)->(∀k,top<=k->r k=k)->(∀p∈l,bw r p.2 p.2)/\(∀p∈o,∀x,p.2=some x->mu r x x)
def iV(F:Nat->Option (List AV))(lo bz:Nat)(l0:List<|Nat×AV)(o0:List<|Nat×Option ab)(l:List<|Nat×AV)(o:List<|Nat×Option ab)(nx:Nat):Prop:=
 ∃(fz:ng) (r:Nat->Nat),(∀k,k<lo->r k=k)/\(∀k,nx<=k->k<top->bz<=r k/\r k<top)/\(∀k,top<=k->r k=k)/\nx<=top/\(∀p∈l,p.1<top/\∃x,(p.1,x)∈l0/\oM fz r x p.2)/\
  (∀p∈o,p.1<top/\∀y,p.2=some y->r p.1<top/\y.pk=true/\∃x,(r p.1,some x)∈o0/\gJ x y/\iu fz r x y)/\
  (∀p∈o,∀q∈o,p.2≠none->q.2≠none->r p.1=r q.1->p.1=q.1)/\
  (∀p∈fz,p.1<top/\F p.2.1=some p.2.2/\∃N t z,(p.1,some<|.cells N t z)∈o0/\∀i x,p.2.2[i]? =some x->i<N/\cellAt t z i=some x/\x.cf=true/\x.bG=true)/\
  (∀p∈fz,∀q∈o,q.2≠none->r q.1≠p.1)
def XQ(n k:Nat)(v:AV)(s:AS):AS:=fF n (some<|.tok k v)<|aZ n s
def nwS(k:Nat)(v:AV)(s:AS):AS:=⟨s.h.put s.nx<|some<|.tok k v,s.nx+1,s.mark,s.rd,s.wr⟩
def XR(res:AV->AV)(s:AS):Option AV->AV
 |none=>res<|.ptr none
 |some _=>res<|.ptr<|some (s.nx,0)
def XS(k:Nat)(s:AS):Option AV->AS
 |none=>s
 |some v=>nwS k v s
structure Env.Ok (E:Env):Prop where
 n7:∀g val args v s n,E.n7 g=some val->val args=some v->E.ck s=true->bh E.P E.sp E.F (n+1) (.fn g) args s= .ok v (E.cs s)
 tt:∀g q m v rest y v' s n,E.tt g=some q->E.ck s=true->Nat.ble E.n0 m=true->Nat.blt m (E.cs s).nx=true->Nat.blt m top=true->(E.cs s).h.get m=some (.tok q.1 v)->q.2 v rest=some (y,v')->
  bh E.P E.sp E.F (n+1) (.fn g) (.ptr (some (m,0))::rest) s= .ok y (XQ m q.1 v'<|E.cs s)
 tn:∀g q args v res s n,E.tn g=some q->E.ck s=true->Nat.blt (E.cs s).nx top=true->q.2 args=some (v,res)->bh E.P E.sp E.F (n+1) (.fn g) args s= .ok (XR res (E.cs s) v) (XS q.1 (E.cs s) v)
 jn:∀g,E.jn g=true->E.sp g=some (fun _ args=>CT args)
def wo(o:Option α)(k:α->Prop):Prop:= @Option.rec α (fun _=>Prop) False k o
def wr(r:R α)(k:α->AS->Prop):Prop:= @R.rec α (fun _=>Prop) False k r
def wb(b:Bool)(k:Prop):Prop:= @Bool.rec (fun _=>Prop) False k b
def Kt:=AV->AS->Pl->Prop
def zH:=AF->AS->Pl->Prop
def Rec:=Nat->Li->Pl->List ResultVar->Kt->zH->Prop
def IG(op:Op):Option<|BinOp×TypeId×Operand×Operand×TypeId:=match op with
 | .binOp o ty x y yt=>some (o,ty,x,y,yt)
 |_=>none
def callParts(op:Op):Option<|Operand×Array Operand×Array TypeId:=match op with
 | .call ⟨.value fo,xs,ts⟩=>some (fo,xs,ts)
 |_=>none
def PK(fi args ca:List AV):List AV:=match fi,ca with
 |[],[]=>args
 |_,_=>fi++args++ca
def PL(v:AV):Option<|FuncId×List AV×List AV:=match v with
 | .func (.func g) fi ca=>some (g,fi,ca)
 |_=>none
def asInt(v:AV):Option<|IntKind×Int:=match v with
 | .int k n=>some (k,n)
 |_=>none
def asSlice(v:AV):Option<|Option (Nat×Nat)×Nat×cC:=match v with
 | .slice a n c=>some (a,n,c)
 |_=>none
def Ph(x:bt):Option<|Nat×Nat×List Item×Tr AV:=match x with
 | .go ⟨f,t,nt,K,[],none⟩=>some (f,nt,K,t)
 |_=>none
def Pj(x:bt):Option<|AF×Option Code:=match x with
 | .leave fr j=>some (fr,j)
 |_=>none
def NU(K:List Item):Option<|Array Oper×Bool×List Item:=match K with
 | .code (.region _ ops d)::K=>some (ops,d,K)
 |_=>none
def PM(o:BinOp)(a b:Int):Option Prop:=match o with
 | .lss=>some<|a<b
 | .leq=>some<|a<=b
 | .gtr=>some<|a>b
 | .geq=>some<|a>=b
 | .eql=>some<|a=b
 | .neq=>some<|a≠b
 |_=>none
def iw(D:Option<|List dx)(s:AS):AS:=match D with
 |none=>s
 |some _=>Jv s
def Ec(D:Option<|List dx)(s s1:AS):AS:=match D with
 |none=>s1
 |some _=>DM s s1
def KF(D:Option<|List dx)(i:Nat)(s s1:AS):Option<|List dx:=match D with
 |none=>none
 |some acc=>some<|acc++[KD i s s1]
def Wg(d:Bool):Option<|List dx:=match d with
 |true=>some []
 |false=>none
def PN(P:Program)(YO:aK)(nt:Nat)(ops:Array Oper)(D:Option<|List dx)(i n:Nat)(t:Tr AV):M<|Tr AV×Option (List dx):=match D with
 |none=>fun s=>match po P YO nt ops i n t s with
  | .ok t s=>.ok (t,none) s
  | .bad=>.bad
 |some acc=>fun s=>match tX P YO nt ops i n t s with
  | .ok x s=>.ok (x.1,some<|acc++x.2) s
  | .bad=>.bad
def J7(ops:Array Oper)(D:Option<|List dx):Bool:=match D with
 |none=>true
 |some acc=>qq (Region.before ops) acc acc
def DN(n:Nat):Option Nat:=match n with
 |0=>none
 |n+1=>some n
def u6(t:Tr AV)(op:Op):Option<|FuncId×List AV:=match callParts op with
 |none=>none
 |some x=>match aI t x.1 with
  |none=>none
  |some fv=>match PL fv with
   |none=>none
   |some g=>match jP (aI t) x.2.1.toList with
    |none=>none
    |some args=>some (g.1,PK g.2.1 args g.2.2)
def NV(t:Tr AV)(op:Op):Option<|Nat×List AV:=match callParts op with
 |none=>none
 |some x=>match aI t x.1 with
  |some (.yield l)=>(match jP (aI t) x.2.1.toList with
   |none=>none
   |some args=>some (l,args))
  |_=>none
def FF(op:Op):Option<|TypeId×Operand×Operand:=match op with
 | .indexAddr ty x y=>some (ty,x,y)
 |_=>none
def Fm(op:Op):Option<|TypeId×Operand:=match op with
 | .load ty a=>some (ty,a)
 |_=>none
def Mk(op:Op):Option<|TypeId×Operand×Operand:=match op with
 | .store ty a x=>some (ty,a,x)
 |_=>none
def CW(op:Op):Option<|Operand×Operand×Array TypeId:=match op with
 | .call ⟨.builtin .append,xs,ts⟩=>match xs.toList with
  |[x,y]=>some (x,y,ts)
  |_=>none
 |_=>none
def PO(v:AV):Option<|Nat×Nat×Nat×Nat:=match v with
 | .slice (some (n,0)) len (.aq m k)=>some (n,len,m,k)
 |_=>none
def Oz(v:AV):Option Nat:=match v with
 | .slice (some (m,0)) 1 (.known 1)=>some m
 |_=>none
def CX(P:Program)(ts:Array TypeId):Option<|Nat×Nat:=match ts[0]? with
 |some ty=>match P.underlying ty with
  |some (.slice e)=>match P.info? e with
   |some i=>match sQ i&&(pj P ts[1]? && !(Nat.beq i.bytes 0)) with
    |true=>some (i.size,i.bytes)
    |false=>none
   |none=>none
  |_=>none
 |none=>none
def J8(v:AV):Option<|Nat×Nat×Nat:=match v with
 | .U n o k=>some (n,o,k)
 |_=>none
def OA(v:AV):Option<|Nat×Nat:=match v with
 | .pC n o=>some (n,o)
 |_=>none
def rz(P:Program)(ty:TypeId):Option Nat:=match P.underlying ty with
 |some (.slice e)=>eF P e
 |_=>none
def Pk(P:Program)(ty:TypeId):Option<|Nat×Nat:=match P.underlying ty with
 |some (.array n e)=>(eF P e).map fun k=>(n,k)
 |_=>none
def cellsOf(o:Option ab)(off k:Nat):Option<|List AV:=match o with
 |some (.cells m t z)=>(match Nat.ble (off+k) m with|true=>lp t z k off|false=>none)
 |_=>none
def xF(o:Option ab)(off:Nat)(l:List AV):Option ab:=match o with
 |some (.cells m t z)=>(match (Nat.ble (off+l.length) m&&(Nat.ble m top&&l.all AV.cf)) with|true=>some (.cells m (Tr.fill l off t) z)|false=>none)
 |_=>none
def cT(F:Nat->Option (List AV))(n off k:Nat):Option<|List AV:=match F n with
 |some l=>(match Nat.ble (off+k) l.length with|true=>some ((l.drop off).take k)|false=>none)
 |none=>none
def xG(k:Nat):Bool:=Nat.blt 0 k
def GP(ag:Bool)(cs:List AV):Option AV:=match ag with
 |true=>some<|.agg cs
 |false=>one cs
def F2(P:Program)(ty:TypeId)(ag:Bool):Option Nat:=match ag with
 |true=>eF P ty
 |false=>some 1
def Jw(o:Option ab):Bool:=match o with
 |none=>true
 |some o=>o.pk
def KG(dr:Bool)(s:AS)(h:Tr ab)(R W:List Nat):AS:=match dr with
 |true=>⟨h,s.nx+1,s.mark,R,W⟩
 |false=>⟨h,s.nx+1,s.mark,s.rd,s.wr⟩
def xY(v:AV):Option<|Nat×Nat×cC:=match v with
 | .slice (some (n,0)) len cap=>some (n,len,cap)
 |_=>none
def Ml(op:Op):Option<|TypeId×Operand×Option Operand×Option Operand:=match op with
 | .slice ty x lo hi none=>some (ty,x,lo,hi)
 |_=>none
def Mc(op:Op):Option<|TypeId×Operand×Operand×Operand:=match op with
 | .slice ty x none (some hi) (some mx)=>some (ty,x,hi,mx)
 |_=>none
def kept(c:cC):Bool:=match c with
 | .lost=>false
 |_=>true
def Dl(t:Tr AV)(o:Option Operand)(d:Int):Option Int:=match o with
 |none=>some d
 |some y=>match aI t y with
  |some (.int _ n)=>some n
  |_=>none
def amy(op:Op):Option<|TypeId×Operand×Operand:=match op with
 | .lookup ty x i false=>some (ty,x,i)
 |_=>none
def Mm(op:Op):Option<|TypeId×Operand×Operand:=match op with
 | .lookup ty x i true=>some (ty,x,i)
 |_=>none
def Nq(op:Op):Option<|TypeId×Operand×Operand×Operand:=match op with
 | .mapUpdate ty x i y=>some (ty,x,i,y)
 |_=>none
def J9(v:AV):Option Nat:=match v with
 | .map (some n)=>some n
 |_=>none
def Jx(P:Program)(ty:TypeId):Option<|TypeId×TypeId:=match P.underlying ty with
 |some (.map k e)=>some (k,e)
 |_=>none
def Gp(k:IntKind):Bool:=match k with
 | .i64=>true
 |_=>false
def PQ(v:Option AV):Bool:=match v with
 |some (.int .i64 (.ofNat 0))=>true
 |_=>false
def NW(l:List AV):Option<|Nat×List AV:=match l with
 | .ptr (some (n,0))::r=>some (n,r)
 |_=>none
def Pm(o:Option ab):Option<|Nat×AV:=match o with
 |some (.tok k v)=>some (k,v)
 |_=>none
def XU(E:Env)(dr:Bool)(ih:Rec)(n:Nat)(nx:AV->AS->Pl->Prop)(s:AS)(t:Tr AV)(op:Op)(p:Pl):Prop:=match p with
 | .fk p q=>wo (IG op) fun x=>wo (aI t x.2.2.1) fun a=>wo (aI t x.2.2.2.1) fun b=>wo (asInt a) fun a=>wo (asInt b) fun b=>wb (decide<|a.1=b.1)<|wo (PM x.1 a.2 b.2) fun c=>(c->nx (.bool true) s p)/\(¬c->nx (.bool false) s q)
 | .vl v p=>wr ((dI E.P op).val (bh E.P E.sp E.F n) t s) fun v' s1=>v'=v/\nx v s1 p
 | .kn v p=>wo (u6 t op) fun x=>wo (DN n) fun _=>wo (E.n7 x.1) fun val=>wb (E.ck s)<|val x.2=some v/\nx v (E.cs s) p
 | .kp c d p q=>wo (u6 t op) fun x=>wo (DN n) fun _=>wo (E.n7 x.1) fun val=>wb (E.ck s)<|val x.2=some (.bool<|@decide c d)/\(c->nx (.bool true) (E.cs s) p)/\(¬c->nx (.bool false) (E.cs s) q)
 | .cu v s2 p=>wo (u6 t op) fun x=>bh E.P E.sp E.F n (.fn x.1) x.2 s= .ok v s2/\nx v s2 p
 | .cg v F Q p=>wo (u6 t op) fun x=>(∀s,Q s->bh E.P E.sp E.F n (.fn x.1) x.2 s= .ok v (F s))/\Q s/\nx v (F s) p
 | .ap _ enc l c p=>wo (CW op) fun x=>wo (aI t x.1) fun a=>wo (PO a) fun a=>wo (aI t x.2.1) fun b=>wo (Oz b) fun m=>wo (CX E.P x.2.2) fun i=>wb (Nat.beq a.2.2.2 i.1&&(xG i.1&&(Nat.blt a.1 s.nx&&(Nat.blt m s.nx&&(Nat.blt s.nx top&&(dr||Nat.beq s.mark 0))))))<|a.2.1=l.length/\a.2.2.1=l.length/\s.h.get a.1=some (aN enc l)/\s.h.get m=some (.cells (enc c).length (Tr.fill (enc c) 0 .nil) [])/\(∀x,(enc x).length=i.1/\(enc x).all AV.cf=true)/\2*(l.length+1)*i.2+4096*i.2<=room/\(l.length+1)*i.1<=top/\nx (.slice (some (s.nx,0)) (l++[c]).length<|.aq (l++[c]).length i.1) (KG dr s ((s.h.put a.1 none).put s.nx<|some<|aN enc<|l++[c]) [a.1,m] [a.1]) p
 | .ix p=>wo (FF op) fun x=>wo (aI t x.2.1) fun a=>wo (asSlice a) fun a=>wo a.1 fun ad=>wo (aI t x.2.2) fun z=>wo (asInt z) fun z=>wo (rz E.P x.1) fun K=>wb (Nat.beq ad.2 0)<|0<=z.2/\z.2<(Int.ofNat a.2.1)/\nx (.ptr<|some (ad.1,z.2.toNat*K)) s p
 | .fh p=>wo (FF op) fun x=>wo (aI t x.2.1) fun a=>wo (J8 a) fun a=>wo (aI t x.2.2) fun z=>wo (asInt z) fun z=>wo (rz E.P x.1) fun K=>0<=z.2/\z.2<(Int.ofNat a.2.2)/\nx (.pC a.1<|a.2.1+z.2.toNat*K) s p
 | .ld cs p=>wo (Fm op) fun x=>wo (aI t x.2) fun a=>wo (addrOf a) fun a=>wo (qB E.P x.1) fun ag=>wo (F2 E.P x.1 ag) fun k=>wb (xG k)<|wb (Nat.blt a.1 s.nx)<|wo (GP ag cs) fun v=>cellsOf (s.h.get a.1) a.2 k=some cs/\nx v (aZ a.1 s) p
 | .XO b p q=>wo (Fm op) fun x=>wo (aI t x.2) fun a=>wo (addrOf a) fun a=>wo (qB E.P x.1) fun ag=>wb (!ag)<|wb (Nat.blt a.1 s.nx)<|cellsOf (s.h.get a.1) a.2 1=some [.bool b]/\(b=true->nx (.bool true) (aZ a.1 s) p)/\(b=false->nx (.bool false) (aZ a.1 s) q)
 | .fj cs p=>wo (Fm op) fun x=>wo (aI t x.2) fun a=>wo (OA a) fun a=>wo (qB E.P x.1) fun ag=>wo (eF E.P x.1) fun _=>wo (F2 E.P x.1 ag) fun k=>wo (GP ag cs) fun v=>top<=a.1/\cT E.F a.1 a.2 k=some cs/\nx v s p
 | .lh o p=>wo (Mk op) fun x=>wo (aI t x.2.1) fun a=>wo (addrOf a) fun a=>wo (aI t x.2.2) fun v=>wo (eF E.P x.1) fun k=>wb (Nat.beq v.cells.length k)<|wb (xG k)<|wb (Nat.blt a.1 s.nx)<|wb (Nat.blt a.1 top)<|xF (s.h.get a.1) a.2 v.cells=some o/\nx qi (fF a.1 (some o)<|aZ a.1 s) p
 | .rm p=>wo (IG op) fun x=>wb (match x.1 with| .rem=>true|_=>false)<|wo (aI t x.2.2.1) fun a=>wo (aI t x.2.2.2.1) fun b=>wo (asInt a) fun a=>wo (asInt b) fun b=>wb (decide<|a.1=b.1)<|b.2≠0/\nx (.int a.1<|Int.tmod a.2 b.2) s p
 | .al _ enc l L p=>wo (CW op) fun x=>wo (aI t x.1) fun a=>wo (xY a) fun a=>wo (aI t x.2.1) fun b=>wo (J8 b) fun b=>wo (CX E.P x.2.2) fun i=>wb (O3 i.1 a.2.1 a.2.2&&(Nat.blt a.1 s.nx&&(Nat.blt s.nx top&&(dr||Nat.beq s.mark 0))))<|a.2.1=l.length/\s.h.get a.1=some (aN enc l)/\top<=b.1/\cT E.F b.1 b.2.1 (b.2.2*i.1)=some (L.map enc).flatten/\b.2.2=L.length/\(∀x,(enc x).length=i.1/\(enc x).all AV.cf=true)/\2*(l.length+L.length)*i.2+4096*i.2<=room/\(l.length+L.length)*i.1<=top/\nx (.slice (some (s.nx,0)) (l++L).length<|.aq (l++L).length i.1) (KG dr s ((s.h.put a.1 none).put s.nx<|some<|aN enc<|l++L) [a.1] [a.1]) p
 | .cy v s2 p=>wo (NV t op) fun x=>bh E.P E.sp E.F n (.round x.1) x.2 s= .ok v s2/\nx v s2 p
 | .Hv p=>wo (FF op) fun x=>wo (aI t x.2.1) fun a=>wo (addrOf a) fun a=>wo (aI t x.2.2) fun z=>wo (asInt z) fun z=>wo (Pk E.P x.1) fun K=>0<=z.2/\z.2<(Int.ofNat K.1)/\nx (.ptr<|some (a.1,a.2+z.2.toNat*K.2)) s p
 | .kt y v' p=>wo (u6 t op) fun x=>wo (DN n) fun _=>wo (E.tt x.1) fun q=>wo (NW x.2) fun z=>wo (Pm<|(E.cs s).h.get z.1) fun u=>wb (E.ck s&&(Nat.beq q.1 u.1&&(Nat.ble E.n0 z.1&&(Nat.blt z.1 (E.cs s).nx&&Nat.blt z.1 top))))<|q.2 u.2 z.2=some (y,v')/\nx y (XQ z.1 q.1 v'<|E.cs s) p
 | .nt v res p=>wo (u6 t op) fun x=>wo (DN n) fun _=>wo (E.tn x.1) fun q=>wb (E.ck s&&Nat.blt (E.cs s).nx top)<|q.2 x.2=some (v,res)/\nx (XR res (E.cs s) v) (XS q.1 (E.cs s) v) p
 | .XP m p q=>wo (Mm op) fun x=>wo (aI t x.2.1) fun a=>wo (J9 a) fun n=>wo (aI t x.2.2) fun i=>wo (asInt i) fun i=>wo (Jx E.P x.1) fun y=>wb (oJ E.P 10000 y.1 (.int .i64 i.2)&&(plainKey E.P y.1 (.int .i64 i.2)&&(Gp i.1&&(PQ (qp E.P y.2)&&Nat.blt n s.nx))))<|s.h.get n=some (bL m)/\(lA m i.2=true->nx (.tuple [.int .i64<|getM m i.2,.bool true]) (aZ n s) p)/\(lA m i.2=false->nx (.tuple [.int .i64 0,.bool false]) (aZ n s) q)
 | .Lh m p=>wo (Nq op) fun x=>wo (aI t x.2.1) fun a=>wo (J9 a) fun n=>wo (aI t x.2.2.1) fun i=>wo (asInt i) fun i=>wo (aI t x.2.2.2) fun v=>wo (asInt v) fun v=>wo (Jx E.P x.1) fun y=>wb (oJ E.P 10000 y.1 (.int .i64 i.2)&&(plainKey E.P y.1 (.int .i64 i.2)&&(Gp i.1&&(Gp v.1&&(Nat.blt n s.nx&&Nat.blt n top)))))<|s.h.get n=some (bL m)/\nx (.tuple []) (fF n (some<|bL<|gA m i.2 v.2)<|aZ n s) p
 | .so p=>wo (Ml op) fun x=>wo (aI t x.2.1) fun a=>wo (xY a) fun a=>wo (rz E.P x.1) fun _=>wo (Dl t x.2.2.1 0) fun lo=>wo (Dl t x.2.2.2<|Int.ofNat a.2.1) fun hi=>wb (kept a.2.2)<|lo=0/\0<=hi/\hi<=Int.ofNat (iP a.2.1 a.2.2)/\nx (.slice (some (a.1,0)) hi.toNat a.2.2) s p
 | .s3 p=>wo (Mc op) fun x=>wo (aI t x.2.1) fun a=>wo (xY a) fun a=>wo (rz E.P x.1) fun _=>wo (aI t x.2.2.1) fun hi=>wo (asInt hi) fun hi=>wo (aI t x.2.2.2) fun mx=>wo (asInt mx) fun mx=>wb (kept a.2.2)<|0<=hi.2/\hi.2<=mx.2/\mx.2<=Int.ofNat (iP a.2.1 a.2.2)/\nx (.slice (some (a.1,0)) hi.2.toNat<|.known mx.2.toNat) s p
 | .ao L1 L2 l p=>wo (CW op) fun x=>wo (aI t x.1) fun a=>wo (xY a) fun a=>wo (aI t x.2.1) fun b=>wo (xY b) fun b=>wo (CX E.P x.2.2) fun i=>wb (Nat.blt a.1 s.nx&&(Nat.blt b.1 s.nx&&(Nat.blt s.nx top&&(dr||Nat.beq s.mark 0))))
  (a.2.2= .known a.2.1/\1<=b.2.1/\s.h.get a.1=some (.cells L1.length (Tr.fill L1 0 .nil) [])/\s.h.get b.1=some (.cells L2.length (Tr.fill L2 0 .nil) [])/\L1.length<=top/\L2.length<=top/\a.2.1*i.1<=L1.length/\b.2.1*i.1<=L2.length/\
   L1.take (a.2.1*i.1)++L2.take (b.2.1*i.1)=l/\l.all AV.cf=true/\2*(a.2.1+b.2.1)*i.2+4096*i.2<=room/\l.length<=top/\
   nx (.slice (some (s.nx,0)) (a.2.1+b.2.1)<|.aq (a.2.1+b.2.1) i.1) (KG dr s (s.h.put s.nx<|some<|.cells l.length (Tr.fill l 0 .nil) []) [a.1,b.1] []) p)
 | .an L1 L2 l p=>wo (CW op) fun x=>wo (aI t x.1) fun a=>wo (xY a) fun a=>wo (aI t x.2.1) fun b=>wo (xY b) fun b=>wo (CX E.P x.2.2) fun i=>wb (xG i.1&&(Nat.blt a.1 s.nx&&(Nat.blt b.1 s.nx&&Nat.blt s.nx top)))
  (a.2.2= .known a.2.1/\1<=a.2.1/\1<=b.2.1/\s.h.get a.1=some (.cells L1.length (Tr.fill L1 0 .nil) [])/\s.h.get b.1=some (.cells L2.length (Tr.fill L2 0 .nil) [])/\L1.length<=top/\L2.length<=top/\a.2.1*i.1<=L1.length/\b.2.1*i.1<=L2.length/\
   L1.take (a.2.1*i.1)++L2.take (b.2.1*i.1)=l/\l.all AV.cf=true/\2*(a.2.1+b.2.1)*i.2+4096*i.2<=room/\l.length<=top/\
   nx (.slice (some (s.nx,0)) (a.2.1+b.2.1)<|.aq (a.2.1+b.2.1) i.1) (oY (.cells l.length (Tr.fill l 0 .nil) [])<|aZ a.1<|aZ b.1 s) p)
 | .il p=>wo (u6 t op) fun x=>wo (DN n) fun m=>match E.sp x.1 with
  |some _=>False
  |none=>wo (E.P.funcs[x.1]?) fun fn=>wo fn.body fun body=>wb (!(fn.name == "runtime.NumGoroutine"))<|wb (Nat.ble (max fn.ntmps x.2.length) top)<|ih m (.fr x.1 (max fn.ntmps x.2.length) [.code body] (ep x.2) s) p fn.results.toList nx fun _ _ _=>False
 |_=>False
def QF(E:Env)(ih:Rec)(n:Nat)(c:Li)(p:Pl)(rs:List ResultVar)(k:Kt)(C:zH):Prop:=match c with
 | .fr f nt K t s=>match p with
  | .st j p=>wr (dZ E.P (bh E.P E.sp E.F n) j ⟨f,t,nt,K,[],none⟩ s) fun x s1=>wo (Ph x) fun y=>ih n (.fr y.1 y.2.1 y.2.2.1 y.2.2.2 s1) p rs k C
  | .rg p=>wo (NU K) fun x=>ih n (.rg f nt x.2.2 x.1 (Wg x.2.1) 0 t s) p rs k C
  | .rt j p=>wr (dZ E.P (bh E.P E.sp E.F n) j ⟨f,t,nt,K,[],none⟩ s) fun x s1=>wo (Pj x) fun y=>wr (finish E.P rs y.1 y.2 s1) fun v s2=>k v s2 p
  | .cut p=>C ⟨f,t,nt,K,[],none⟩ s p
  | .ls l o nx p=>wb (E.fg&&(pH top l&&(pH top o&&((Nat.ble s.nx nx&&Nat.ble nx top)&&o.all fun q=>Jw q.2))))<|l.map (fun q=>t.get q.1)=l.map (fun q=>some q.2)/\o.map (fun q=>s.h.get q.1)=o.map (fun q=>q.2)/\C ⟨f,aQ l,nt,K,[],none⟩ (ak o nx) p
  | .rn l0 o0 l o bz nx p=>wb (E.fg&&Nat.beq s.nx bz)<|l0.map (fun q=>t.get q.1)=l0.map (fun q=>some q.2)/\o0.map (fun q=>s.h.get q.1)=o0.map (fun q=>q.2)/\iV E.F E.lo bz l0 o0 l o nx/\C ⟨f,aQ l,nt,K,[],none⟩ (ak o nx) p
  | .bk l o nx p=>wb (E.fg&&(pH top l&&(pH nx o&&((Nat.ble nx s.nx&&(Nat.blt s.nx top&&Nat.ble E.lo nx))&&o.all fun q=>Jw q.2))))<|l.map (fun q=>t.get q.1)=l.map (fun q=>some q.2)/\o.map (fun q=>s.h.get q.1)=o.map (fun q=>q.2)/\xX nx l o/\C ⟨f,aQ l,nt,K,[],none⟩ (ak o nx) p
  |_=>False
 | .rg f nt K ops D i t s=>match p with
  | .go m p=>wb (Nat.ble (i+m) ops.size)<|wr (PN E.P (bh E.P E.sp E.F n) nt ops D i m t s) fun x s1=>ih n (.rg f nt K ops x.2 (i+m) x.1 s1) p rs k C
  | .en p=>wb (Nat.ble ops.size i)<|wb (J7 ops D)<|ih n (.fr f nt K t s) p rs k C
  |p=>wo (xT ops i) fun o=>wb (J6 ops o.2.2 t)<|XU E (D.isSome&&Nat.beq s.mark 0) ih n (fun v s1 p=>wo (ji nt t o.2.1 v) fun t1=>ih n (.rg f nt K ops (KF D i (s) s1) (i+1) t1<|Ec D s s1) p rs k C) (iw D s) t o.1 p
def wp(E:Env)(fuel:Nat):Rec:= @Nat.rec (fun _=>Rec) (fun _ _ _ _ _ _=>False) (fun _ ih=>QF E ih) fuel
def lT(P:Program)(YO:aK)(G:AF->AS->Prop)(f nt:Nat)(K:List Item)(ops:Array Oper)(D:Option<|List dx)(i:Nat)(t:Tr AV)(s:AS):Prop:=match D with
 |none=>xV P YO G f nt K ops i t s
 |some acc=>qF P YO G f nt K ops acc i t s
def Gof(P:Program)(YO:aK)(G:AF->AS->Prop)(c:Li):Prop:=match c with
 | .fr f nt K t s=>G ⟨f,t,nt,K,[],none⟩ s
 | .rg f nt K ops D i t s=>lT P YO G f nt K ops D i t s
end
theorem bc{o:Option α}{k:α->Prop}(h:wo o k):∃x,o=some x/\k x:=by
 cases o with
 |none=>exact h.elim
 |some x=>exact⟨x,rfl,h⟩
theorem F3{r:R α}{k:α->AS->Prop}(h:wr r k):∃x s,r= .ok x s/\k x s:=by
 cases r with
 |bad=>exact h.elim
 |ok x s=>exact⟨x,s,rfl,h⟩
theorem gT{k:Prop}(h:wb b k):b=true/\k:=by
 cases b with
 |false=>exact h.elim
 |true=>exact⟨rfl,h⟩
theorem adE(fi args ca:List AV):PK fi args ca=fi++args++ca:=by
 unfold PK;split
 ·simp
 ·rfl
theorem acg{g:FuncId×List AV×List AV}(h:PL v=some g):v= .func (.func g.1) g.2.1 g.2.2:=by
 unfold PL at h;split at h
 ·injection h with h;subst h;rfl
 ·cases h
theorem qZ{x:IntKind×Int}(h:asInt v=some x):v= .int x.1 x.2:=by
 unfold asInt at h;split at h
 ·injection h with h;subst h;rfl
 ·cases h
theorem ZJ{x:Option (Nat×Nat)×Nat×cC}(h:asSlice v=some x):v= .slice x.1 x.2.1 x.2.2:=by
 unfold asSlice at h;split at h
 ·injection h with h;subst h;rfl
 ·cases h
theorem aa1{x:bt}{y:Nat×Nat×List Item×Tr AV}(h:Ph x=some y):x= .go ⟨y.1,y.2.2.2,y.2.1,y.2.2.1,[],none⟩:=by
 unfold Ph at h;split at h
 ·injection h with h;subst h;rfl
 ·cases h
theorem aa2{x:bt}{y:AF×Option Code}(h:Pj x=some y):x= .leave y.1 y.2:=by
 unfold Pj at h;split at h
 ·injection h with h;subst h;rfl
 ·cases h
theorem ZK{K:List Item}{y:Array Oper×Bool×List Item}(h:NU K=some y):∃id,K= .code (.region id y.1 y.2.1)::y.2.2:=by
 unfold NU at h;split at h
 ·injection h with h;subst h;exact⟨_,rfl⟩
 ·cases h
theorem Fo{m:Nat}(h:DN n=some m):n=m+1:=by
 cases n with
 |zero=>cases h
 |succ n=>injection h with h;subst h;rfl
theorem RI{op:Op}{x:BinOp×TypeId×Operand×Operand×TypeId}(h:IG op=some x):op= .binOp x.1 x.2.1 x.2.2.1 x.2.2.2.1 x.2.2.2.2:=by
 unfold IG at h;split at h
 ·injection h with h;subst h;rfl
 ·cases h
theorem aae{t:Tr AV}{op:Op}{x:FuncId×List AV}(h:u6 t op=some x):∃fo xs ts fi args ca,op= .call ⟨.value fo,xs,ts⟩/\aI t fo=some (.func (.func x.1) fi ca)/\jP (aI t) xs.toList=some args/\x.2=fi++args++ca:=by
 unfold u6 at h;split at h
 ·cases h
 ·rename_i y hy;have eX:op= .call ⟨.value y.1,y.2.1,y.2.2⟩:=by
   unfold callParts at hy;split at hy
   ·injection hy with hy;subst hy;rfl
   ·cases hy
  split at h
  ·cases h
  ·rename_i fv hf;split at h
   ·cases h
   ·rename_i g hg;split at h
    ·cases h
    ·rename_i args ha;injection h with h;subst h
     exact⟨_,_,_,g.2.1,_,g.2.2,eX,by rw[hf,acg hg],ha,adE _ _ _⟩
section
variable {P:Program} {s s1:AS} {YO:aK} {t t1:Tr AV} {ops:Array Oper} {f nt i:Nat} {K:List Item} {G:AF->AS->Prop} {D:Option<|List dx}
theorem adF{o:BinOp}{a b:Int}(h:PM o a b=some c):∃r,PH o a b=some r/\(r=true↔c):=by
 unfold PM at h;split at h<;>first|(injection h with h;subst h)|cases h
 ·exact⟨_,rfl,by rw[decide_eq_true_iff]⟩
 ·exact⟨_,rfl,by rw[decide_eq_true_iff]⟩
 ·exact⟨_,rfl,by rw[decide_eq_true_iff]⟩
 ·exact⟨_,rfl,by rw[decide_eq_true_iff]⟩
 ·exact⟨_,rfl,by simp⟩
 ·exact⟨_,rfl,by simp⟩
theorem lT.op{op:Op}{d:Option Tmp}{g:Option<|Nat×Bool}(ho:xT ops i=some (op,d,g))(hw:J6 ops g t=true)(h:(dI P op).val YO t (iw D s)= .ok v s1)(hp:ji nt t d v=some t1)(H:lT P YO G f nt K ops (KF D i s s1) (i+1) t1<|Ec D s s1):lT P YO G f nt K ops D i t s:=by
 cases D with
 |none=>exact xV.step (UG ho) (afi ho hw h hp) H
 |some acc=>exact qF.step (UG ho) (adB ho hw h hp) H
theorem lT.go{x:Tr AV×Option (List dx)}(hn:Nat.ble (i+n) ops.size=true)(h:PN P YO nt ops D i n t s= .ok x s1)(H:lT P YO G f nt K ops x.2 (i+n) x.1 s1):lT P YO G f nt K ops D i t s:=by
 have hle:=aM.1 hn;unfold PN at h;cases D with
 |none=>
  simp only at h;split at h
  ·rename_i t2 s2 e;injection h with h1 h2;subst h1;subst h2
   obtain⟨t3,s3,q1,q2⟩:=H;refine⟨t3,s3,?_,q2⟩;rw[show ops.size - i=n+(ops.size - (i+n)) by omega];exact Sk e q1
  ·cases h
 |some acc=>
  simp only at h;split at h
  ·rename_i y s2 e;injection h with h1 h2;subst h1;subst h2
   obtain⟨t3,ms,s3,q1,q2,q3⟩:=H;refine⟨t3,_,s3,?_,by rw[←List.append_assoc];exact q2,q3⟩;rw[show ops.size - i=n+(ops.size - (i+n)) by omega];exact TM rfl aj e q1
  ·cases h
theorem lT.done(h:Nat.ble ops.size i=true)(ho:J7 ops D=true)(H:G ⟨f,t,nt,K,[],none⟩ s):lT P YO G f nt K ops D i t s:=by
 cases D with
 |none=>exact xV.done h H
 |some acc=>exact qF.done (and_true.2 ⟨h,ho⟩) H
theorem lT.aiP(hG:Chunk P YO G){id:Nat}{d:Bool}(H:lT P YO G f nt K ops (Wg d) 0 t s):G ⟨f,t,nt,.code (.region id ops d)::K,[],none⟩ s:=by
 cases d with
 |false=>exact Chunk.z7 hG (c:=.region id ops false) rfl H
 |true=>exact Chunk.aiL hG (c:=.region id ops true) rfl H
theorem aaf{op:Op}{x:Nat×List AV}(h:NV t op=some x)(hv:YO (.round x.1) x.2 s= .ok v s1):(dI P op).val YO t s= .ok v s1:=by
 unfold NV at h;split at h
 ·cases h
 ·rename_i y e;split at h
  ·rename_i l e2;split at h
   ·cases h
   ·rename_i args e3;injection h with h;subst h
    unfold callParts at e;split at e
    ·rename_i fo xs ts;injection e with e;subst e
     show tI fo xs.toList YO t s=_;unfold tI;simp only at e2 e3;rw[e3,ch,e2,ch];show mY YO (.yield l) args s=_;exact hv
    ·cases e
  ·cases h
theorem Ax{op:Op}{x:FuncId×List AV}(h:u6 t op=some x)(hv:YO (.fn x.1) x.2 s= .ok v s1):(dI P op).val YO t s= .ok v s1:=by obtain⟨fo,xs,ts,fi,args,ca,rfl,h1,h2,h3⟩:=aae h;show tI fo xs.toList YO t s=_;unfold tI;rw[h2,ch,h1,ch];show YO (.fn x.1) (fi++args++ca) s=_;rw[←h3];exact hv
end
theorem YW{op:Op}(h:Mm op=some x):op= .lookup x.1 x.2.1 x.2.2 true:=by
 unfold Mm at h;split at h
 ·injection h with h;subst h;rfl
 ·cases h
theorem Zm{op:Op}{x:TypeId×Operand×Operand×Operand}(h:Nq op=some x):op= .mapUpdate x.1 x.2.1 x.2.2.1 x.2.2.2:=by
 unfold Nq at h;split at h
 ·injection h with h;subst h;rfl
 ·cases h
theorem S8(h:J9 v=some n):v= .map (some n):=by
 unfold J9 at h;split at h
 ·injection h with h;subst h;rfl
 ·cases h
theorem So{P:Program}{y:TypeId×TypeId}(h:Jx P ty=some y):P.underlying ty=some (.map y.1 y.2):=by
 unfold Jx at h;split at h
 ·rename_i e;injection h with h;subst h;exact e
 ·cases h
theorem MI{k:IntKind}(h:Gp k=true):k= .i64:=by
 unfold Gp at h;split at h
 ·rfl
 ·cases h
theorem ach{v:Option AV}(h:PQ v=true):v=some (.int .i64 0):=by
 unfold PQ at h;split at h
 ·rfl
 ·cases h
theorem LW{op:Op}(h:FF op=some x):op= .indexAddr x.1 x.2.1 x.2.2:=by
 unfold FF at h;split at h
 ·injection h with h;subst h;rfl
 ·cases h
theorem HU{op:Op}{x:Operand×Operand×Array TypeId}(h:CW op=some x):op= .call ⟨.builtin .append, #[x.1,x.2.1],x.2.2⟩:=by
 unfold CW at h;split at h
 ·rename_i xs ts;split at h
  ·rename_i a b e;injection h with h;subst h
   have:xs= #[a,b]:=Array.ext' e;rw[this]
  ·cases h
 ·cases h
theorem aci{x:Nat×Nat×Nat×Nat}(h:PO v=some x):v= .slice (some (x.1,0)) x.2.1 (.aq x.2.2.1 x.2.2.2):=by
 unfold PO at h;split at h
 ·injection h with h;subst h;rfl
 ·cases h
theorem aag{m:Nat}(h:Oz v=some m):v= .slice (some (m,0)) 1 (.known 1):=by
 unfold Oz at h;split at h
 ·injection h with h;subst h;rfl
 ·cases h
theorem HV{P:Program}{ts:Array TypeId}{x:Nat×Nat}(h:CX P ts=some x):∃ty e,ts[0]? =some ty/\P.underlying ty=some (.slice e)/\(P.info? e).map (fun i=>(i.size,i.bytes,sQ i))=some (x.1,x.2,true)/\pj P ts[1]? =true/\Nat.beq x.2 0=false:=by
 unfold CX at h;split at h
 ·rename_i ty h1;split at h
  ·rename_i e h2;split at h
   ·rename_i i h3;split at h
    ·rename_i hb;injection h with h;subst h
     obtain⟨b1,b2⟩:=and_true.1 hb;obtain⟨b2,b3⟩:=and_true.1 b2;refine⟨ty,e,h1,h2,by rw[h3];simp only[Option.map_some,b1],b2,by simpa using b3⟩
    ·cases h
   ·cases h
  ·cases h
 ·cases h
theorem HQ{op:Op}{x:TypeId×Operand}(h:Fm op=some x):op= .load x.1 x.2:=by
 unfold Fm at h;split at h
 ·injection h with h;subst h;rfl
 ·cases h
theorem YX{op:Op}(h:Mk op=some x):op= .store x.1 x.2.1 x.2.2:=by
 unfold Mk at h;split at h
 ·injection h with h;subst h;rfl
 ·cases h
theorem S9{x:Nat×Nat×Nat}(h:J8 v=some x):v= .U x.1 x.2.1 x.2.2:=by
 unfold J8 at h;split at h
 ·injection h with h;subst h;rfl
 ·cases h
theorem aah{x:Nat×Nat}(h:OA v=some x):v= .pC x.1 x.2:=by
 unfold OA at h;split at h
 ·injection h with h;subst h;rfl
 ·cases h
theorem Ia{x:Nat×Nat}(h:addrOf v=some x):v= .ptr (some x):=by
 unfold addrOf at h;split at h
 ·injection h with h;subst h;rfl
 ·cases h
theorem MJ{z:Int}{len:Nat}(h1:0<=z)(h2:z<Int.ofNat len):within z len=some z.toNat:=by
 obtain⟨m,rfl⟩:=Int.eq_ofNat_of_zero_le h1;show within (Int.ofNat m) len=some m;have h2:(m:Int)<(len:Int):=h2;unfold within;have:Nat.blt m len=true:=by rw[blt_eq];omega
 simp only[this]
section
variable {P:Program} {s s1:AS} {YO:aK} {t:Tr AV}
theorem agN{len K:Nat}{z:Int}(hx:aI t x.2.1=some (.slice (some (n,0)) len cap))(hz:aI t x.2.2=some (.int ik z))(hk:rz P x.1=some K)(h1:0<=z)(h2:z<Int.ofNat len):(dI P<|.indexAddr x.1 x.2.1 x.2.2).val YO t s= .ok (.ptr<|some (n,z.toNat*K)) s:=by
 show p9 P x.1 x.2.1 x.2.2 YO t s=_;unfold p9;rw[hx,hz,ch,ch];unfold rz at hk;split at hk
 ·rename_i e he;show lift (indexAddr P x.1 (.slice (some (n,0)) len cap)<|.int ik z) s=_;unfold indexAddr intOf;simp only[he,hk,MJ h1 h2,Nat.zero_add];rfl
 ·cases hk
theorem afu{K:Nat×Nat}{z:Int}(hx:aI t x.2.1=some (.ptr<|some (n,o)))(hz:aI t x.2.2=some (.int ik z))(hk:Pk P x.1=some K)(h1:0<=z)(h2:z<Int.ofNat K.1):(dI P<|.indexAddr x.1 x.2.1 x.2.2).val YO t s= .ok (.ptr<|some (n,o+z.toNat*K.2)) s:=by
 show p9 P x.1 x.2.1 x.2.2 YO t s=_;unfold p9;rw[hx,hz,ch,ch];unfold Pk at hk;split at hk
 ·rename_i m e he;cases hs:eF P e with
  |none=>rw[hs] at hk;cases hk
  |some k=>
   rw[hs] at hk;injection hk with hk
   subst hk;show lift (indexAddr P x.1 (.ptr<|some (n,o))<|.int ik z) s=_;unfold indexAddr intOf;simp only[he,hs,MJ h1 h2];rfl
 ·cases hk
theorem afv{len K:Nat}{z:Int}(hx:aI t x.2.1=some (.U n o len))(hz:aI t x.2.2=some (.int ik z))(hk:rz P x.1=some K)(h1:0<=z)(h2:z<Int.ofNat len):(dI P<|.indexAddr x.1 x.2.1 x.2.2).val YO t s= .ok (.pC n<|o+z.toNat*K) s:=by
 show p9 P x.1 x.2.1 x.2.2 YO t s=_;unfold p9;rw[hx,hz,ch,ch];unfold rz at hk;split at hk
 ·rename_i e he;show lift (indexAddr P x.1 (.U n o len)<|.int ik z) s=_;unfold indexAddr intOf;simp only[he,hk,MJ h1 h2];rfl
 ·cases hk
theorem RJ(hk:xG k=true)(hn:Nat.blt n s.nx=true)(h:cellsOf (s.h.get n) off k=some cs):jd n off k s= .ok cs (aZ n s):=by
 cases k with
 |zero=>cases hk
 |succ k=>
  unfold cellsOf at h;split at h
  ·rename_i m tt z hg;split at h
   ·rename_i hb;show((bq n).bind fun o=>match o with
     | .cells m t z=>aH (Nat.ble (off+(k+1)) m) <| lift (lp t z (k+1) off)
     | .ro m t=>aH (Nat.ble (off+(k+1)) m) <| lift (lp t [] (k+1) off)
     |_=>fail) s=_
    rw[M.bQ<|md hn hg];show aH (Nat.ble (off+(k+1)) m) (lift<|lp tt z (k+1) off) (aZ n s)=_;rw[hb,dC,h];rfl
   ·cases h
  ·cases h
theorem aai(hg:qB P ty=some ag)(hw:F2 P ty ag=some k)(hk:xG k=true)(hn:Nat.blt n s.nx=true)(hv:GP ag cs=some v)(h:cellsOf (s.h.get n) off k=some cs):loadVar P ty n off s= .ok v (aZ n s):=by
 unfold loadVar;rw[hg,ch];cases ag with
 |true=>
  have hw:eF P ty=some k:=hw;injection hv with hv;subst hv
  show(aC (eF P ty) fun k=>(jd n off k).bind fun l=>M.pure<|AV.agg l) s=_;rw[hw,ch,M.bQ<|RJ hk hn h];rfl
 |false=>
  injection hw with hw;subst hw
  show((jd n off 1).bind fun l=>lift<|one l) s=_;rw[M.bQ<|RJ hk hn h];show lift (one cs) (aZ n s)=_;rw[show one cs=some v from hv];rfl
theorem Pn{x:TypeId×Operand}(ha:aI t x.2=some (.ptr<|some a))(hg:qB P x.1=some ag)(hw:F2 P x.1 ag=some k)(hk:xG k=true)(hn:Nat.blt a.1 s.nx=true)(hv:GP ag cs=some v)(h:cellsOf (s.h.get a.1) a.2 k=some cs):(dI P<|.load x.1 x.2).val YO t s= .ok v (aZ a.1 s):=by show tH P x.1 x.2 YO t s=_;unfold tH;rw[ha,ch];show loadVar P x.1 a.1 a.2 s=_;exact aai hg hw hk hn hv h
theorem afw{o:ab}(ha:aI t x.2.1=some (.ptr<|some a))(hv:aI t x.2.2=some v)(hk:eF P x.1=some k)(hl:Nat.beq v.cells.length k=true)(hp:xG k=true)(hn:Nat.blt a.1 s.nx=true)(ht:Nat.blt a.1 top=true)(h:xF (s.h.get a.1) a.2 v.cells=some o):(dI P<|.store x.1 x.2.1 x.2.2).val YO t s= .ok qi (fF a.1 (some o)<|aZ a.1 s):=by
 show xj P x.1 x.2.1 x.2.2 YO t s=_;unfold xj;rw[ha,ch];show aC (aI t x.2.2) (fun v=>(storeVar P x.1 a.1 a.2 v).bind fun _=>M.pure qi) s=_;rw[hv,ch];have hw:storeVar P x.1 a.1 a.2 v s= .ok () (fF a.1 (some o)<|aZ a.1 s):=by
  unfold storeVar;rw[hk,ch,hl,dC];unfold xF at h;split at h
  ·rename_i m tt z hg;split at h
   ·rename_i hb;injection h with h;subst h
    cases hc:v.cells with
    |nil=>rw[hc] at hl;have:=Nat.eq_of_beq_eq_true hl;subst this;cases hp
    |cons y r=>
     rw[hc] at hb;show((bq a.1).bind fun o=>match o with
      | .cells m t z=>aH (and (Nat.ble (a.2+(r.length+1)) m)<|and (Nat.ble m top)<|(y::r).all AV.cf) <| bN a.1 (some<|.cells m (Tr.fill (y::r) a.2 t) z)
      |_=>fail) s=_
     rw[M.bQ<|md hn hg];show aH (and (Nat.ble (a.2+(r.length+1)) m)<|and (Nat.ble m top)<|(y::r).all AV.cf) (bN a.1<|some<|.cells m (Tr.fill (y::r) a.2 tt) z) (aZ a.1 s)=_;rw[show(and (Nat.ble (a.2+(r.length+1)) m)<|and (Nat.ble m top)<|(y::r).all AV.cf)=true from hb,dC];obtain⟨e1,e2,_⟩:=fQ a.1 s;exact yQ (p:=.cells m tt z) (by rw[e2];exact hn) (by rw[e1];exact hg) rfl ht
   ·cases h
  ·cases h
 rw[M.bQ hw];rfl
theorem afx{x:TypeId×Operand}(ha:aI t x.2=some (.pC a.1 a.2))(hg:qB P x.1=some ag){z:Nat}(hz:eF P x.1=some z)(hw:F2 P x.1 ag=some k)(hv:GP ag cs=some v)(ht:top<=a.1)(h:cT F a.1 a.2 k=some cs):(dI P<|.load x.1 x.2).val (bh P sp F n) t s= .ok v s:=by
 show tH P x.1 x.2 (bh P sp F n) t s=_;unfold tH;rw[ha,ch];show(match Nat.ble top a.1 with
  |true=>uU P x.1 (bh P sp F n) a.1 a.2
  |false=>w7 P x.1 a.1 a.2) s=_
 rw[aM.2 ht];have hr:∀k,cT F a.1 a.2 k=some cs->bh P sp F n (.row a.1 a.2 k) [] s= .ok (.agg cs) s:=by
  intro k h;have:qE F a.1 a.2 k s= .ok (.agg cs) s:=by
   unfold cT at h;unfold qE;cases e:F a.1 with
   |none=>rw[e] at h;cases h
   |some l=>
    rw[e] at h;simp only at h;split at h
    ·rename_i hb;injection h with h;subst h
     rw[ch,hb,dC];rfl
    ·cases h
  cases n<;>exact this
 show uU P x.1 (bh P sp F n) a.1 a.2 s=_;unfold uU;rw[hg,ch];rw[hz,ch];cases ag with
 |true=>
  have hw:eF P x.1=some k:=hw;rw[hz] at hw;injection hw with hw;subst hw
  injection hv with hv;subst hv
  show((bh P sp F n (.row a.1 a.2 z) []).bind fun v=>_) s=_;rw[M.bQ<|hr z h];rfl
 |false=>
  injection hw with hw;subst hw
  show((bh P sp F n (.row a.1 a.2 1) []).bind fun v=>_) s=_;rw[M.bQ<|hr 1 h];show lift (one cs) s=_;rw[show one cs=some v from hv];rfl
theorem agO{x:BinOp×TypeId×Operand×Operand×TypeId}{k:IntKind}{a b:Int}(ho:x.1= .rem)(hx:aI t x.2.2.1=some (.int k a))(hy:aI t x.2.2.2.1=some (.int k b))(hb:b≠0):(dI P<|.binOp x.1 x.2.1 x.2.2.1 x.2.2.2.1 x.2.2.2.2).val YO t s= .ok (.int k<|Int.tmod a b) s:=by rw[ho];exact afh hx hy hb rfl
theorem Nr:∀{l:List<|Nat×AV},l.map (fun q=>t.get q.1)=l.map (fun q=>some q.2)->xE t l
 |[],_=>trivial
 |p::l,h=>by simp only[List.map_cons,List.cons.injEq] at h;exact⟨h.1,Nr h.2⟩
theorem NX{h:Tr ab}:∀{o:List<|Nat×Option ab},o.map (fun q=>h.get q.1)=o.map (fun q=>q.2)->(o.all fun q=>Jw q.2)=true->xU h o
 |[],_,_=>trivial
 |p::l,e,k=>by simp only[List.map_cons,List.cons.injEq] at e;rw[List.all_cons] at k;obtain⟨k1,k2⟩:=and_true.1 k;exact⟨⟨e.1,fun o ho=>by rw[ho] at k1;exact k1⟩,NX e.2 k2⟩
end
def Aa(m m':dx):Prop:=m.i=m'.i/\(∀n∈m.rd,n∈m'.rd)/\(∀n∈m.wr,n∈m'.wr)/\m.lo=m'.lo/\m.hi=m'.hi
def nh:List dx->List dx->Prop
 |[],[]=>True
 |x::l,y::m=>Aa x y/\nh l m
 |_,_=>False
theorem Aa.refl(m:dx):Aa m m:=⟨rfl,fun _ h=>h,fun _ h=>h,rfl,rfl⟩
theorem nh.refl:∀l:List dx,nh l l
 |[]=>trivial
 |x::l=>⟨Aa.refl x,nh.refl l⟩
theorem nh.app:∀{a a' b b':List dx},nh a a'->nh b b'->nh (a++b) (a'++b')
 |[],[],_,_,_,h=>h
 |_::_,_::_,_,_,h,k=>⟨h.1,nh.app h.2 k⟩
 |[],_::_,_,_,h,_=>h.elim
 |_::_,[],_,_,h,_=>h.elim
theorem MK{lo hi:Nat}:∀{l:List Nat},zk lo hi l=true↔∃n∈l,lo<=n/\n<hi
 |[]=>by simp[zk]
 |x::l=>by
  have ih:=MK (lo:=lo) (hi:=hi) (l:=l);unfold zk;cases q:(Nat.ble lo x&&Nat.blt x hi) with
  |true=>obtain⟨h1,h2⟩:=and_true.1 q;exact⟨fun _=>⟨x,List.mem_cons_self,aM.1 h1,(blt_eq _ _).mp h2⟩,fun _=>rfl⟩
  |false=>
   refine ih.trans ⟨fun⟨n,a,b⟩=>⟨n,List.mem_cons_of_mem _ a,b⟩,fun⟨n,a,b⟩=>?_⟩;rcases List.mem_cons.1 a with rfl|a
   ·exfalso;rw[show(Nat.ble lo n&&Nat.blt n hi)=true from and_true.2 ⟨aM.2 b.1,(blt_eq _ _).mpr b.2⟩] at q;cases q
   ·exact⟨n,a,b⟩
theorem ML:∀{a b:List Nat},meets a b=true↔∃n∈a,n∈b
 |[],b=>by simp[meets]
 |x::a,b=>by
  have ih:=ML (a:=a) (b:=b);unfold meets;cases q:vK x b with
  |true=>exact⟨fun _=>⟨x,List.mem_cons_self,FB.1 q⟩,fun _=>rfl⟩
  |false=>
   refine ih.trans ⟨fun⟨n,h,k⟩=>⟨n,List.mem_cons_of_mem _ h,k⟩,fun⟨n,h,k⟩=>?_⟩;rcases List.mem_cons.1 h with rfl|h
   ·rw[FB.2 k] at q;cases q
   ·exact⟨n,h,k⟩
theorem Ta{m:Nat}{a b:List Nat}(h:∀k∈a,k∈b)(n:Nat)(hn:n∈below m a):n∈below m b:=by obtain⟨h1,h2⟩:=sP.1 hn;exact sP.2 ⟨h n h1,h2⟩
theorem Ib(l:List Nat):below 0 l=[]:=rfl
theorem aaj{x y y':dx}(hx:Aa x x')(hy:Aa y y')(h:tf x' y'=true):tf x y=true:=by
 unfold tf at h ⊢;obtain⟨h1,h2⟩:=and_true.1 h;refine and_true.2 ⟨?_,?_⟩
 ·cases q:meets x.wr y.rd with
  |false=>rfl
  |true=>obtain⟨n,a,b⟩:=ML.1 q;rw[ML.2 ⟨n,hx.2.2.1 n a,hy.2.1 n b⟩] at h1;cases h1
 ·cases q:zk x.lo x.hi y.rd with
  |false=>rfl
  |true=>obtain⟨n,a,b⟩:=MK.1 q;rw[hx.2.2.2.1,hx.2.2.2.2] at b;rw[MK.2 ⟨n,hy.2.1 n a,b⟩] at h2;cases h2
theorem aak{x:dx}(hx:Aa x x')(h:tg x'=true):tg x=true:=by
 unfold tg at h ⊢;cases e:x'.wr with
 |cons a l=>rw[e] at h;cases h
 |nil=>
  rw[e] at h;cases e2:x.wr with
  |nil=>rw[hx.2.2.2.1,hx.2.2.2.2];exact h
  |cons a l=>have:=hx.2.2.1 a (by rw[e2];exact List.mem_cons_self);rw[e] at this;cases this
theorem Rt{b:Array Nat}{x x':dx}(hx:Aa x x'):∀{l l':List dx},nh l l'->sM b x' l'=true->sM b x l=true
 |[],[],_,_=>rfl
 |[],_::_,h,_=>h.elim
 |_::_,[],h,_=>h.elim
 |y::l,y'::l',hl,h=>by
  unfold sM at h ⊢;cases q:(Nat.beq x'.i y'.i||(tf x' y'|| !loose b x'.i y'.i)) with
  |false=>rw[q] at h;cases h
  |true=>
   rw[q] at h;have:(Nat.beq x.i y.i||(tf x y|| !loose b x.i y.i))=true:=by
    rw[hx.1,hl.1.1];cases q1:Nat.beq x'.i y'.i with
    |true=>rfl
    |false=>
     rw[q1] at q;cases q2:tf x' y' with
     |true=>rw[aaj hx hl.1 q2];rfl
     |false=>
      rw[q2] at q;cases tf x y
      ·exact q
      ·rfl
   rw[this];exact Rt hx hl.2 h
theorem Tb{b:Array Nat}{all PR:List dx}(ha:nh all PR):∀{l l':List dx},nh l l'->qq b PR l'=true->qq b all l=true
 |[],[],_,_=>rfl
 |[],_::_,h,_=>h.elim
 |_::_,[],h,_=>h.elim
 |x::l,x'::l',hl,h=>by
  unfold qq at h ⊢;cases q:(tg x'||sM b x' PR) with
  |false=>rw[q] at h;cases h
  |true=>
   rw[q] at h;have:(tg x||sM b x all)=true:=by
    cases q1:tg x' with
    |true=>rw[aak hl.1 q1];rfl
    |false=>rw[q1] at q;rw[Rt hl.1 ha q];cases tg x<;>rfl
   rw[this];exact Tb ha hl.2 h
theorem qF.cover{P:Program}{YO:aK}{G:AF->AS->Prop}{f nt:Nat}{K:List Item}{ops:Array Oper}{acc PS:List dx}{i:Nat}{t:Tr AV}{s:AS}(h:nh acc PS)(H:qF P YO G f nt K ops PS i t s):qF P YO G f nt K ops acc i t s:=by obtain⟨t1,ms,s1,q1,q2,q3⟩:=H;exact⟨t1,ms,s1,q1,Tb (h.app<|nh.refl ms) (h.app<|nh.refl ms) q2,q3⟩
theorem aa3{B:Prop}(hy:b=true->A)(lY:b=false->B)(ha:b=true->A->X)(hb:b=false->B->X):X:=by
 cases b with
 |true=>exact ha rfl<|hy rfl
 |false=>exact hb rfl<|lY rfl
theorem acj{o:Option AV}{d:Decidable c}{B:Prop}(h:o=some (.bool<|@decide c d))(hy:c->A)(lY:¬c->B)(ha:o=some (.bool true)->A->X)(hb:o=some (.bool false)->B->X):X:=by
 by_cases q:c
 ·rw[decide_eq_true q] at h;exact ha h<|hy q
 ·rw[decide_eq_false q] at h;exact hb h<|lY q
theorem AJ{x:Nat×Nat×cC}(h:xY v=some x):v= .slice (some (x.1,0)) x.2.1 x.2.2:=by
 unfold xY at h;split at h
 ·injection h with h;subst h;rfl
 ·cases h
theorem YY{op:Op}{x:TypeId×Operand×Option Operand×Option Operand}(h:Ml op=some x):op= .slice x.1 x.2.1 x.2.2.1 x.2.2.2 none:=by
 unfold Ml at h;split at h
 ·injection h with h;subst h;rfl
 ·cases h
theorem MM{i:Int}(h0:0<=i)(h1:i<(n:Int)):within i n=some i.toNat:=by
 obtain⟨k,rfl⟩:=Int.eq_ofNat_of_zero_le h0;have hk:k<n:=by omega
 show(match (Int.ofNat k) with| .ofNat k=>(match Nat.blt k n with|true=>some k|false=>none)| .negSucc _=>none)=some k;have:Nat.blt k n=true:=by rw[blt_eq];exact hk
 simp only[this]
theorem RK{t:Tr AV}{o:Option Operand}{d v:Int}{tU:Nat}(h:Dl t o d=some v)(h0:0<=v)(h1:v<=(tU:Int)):∃y,opt (aI t) o=some y/\∀dn:Nat,(Int.ofNat dn=d)->bound y tU dn=some v.toNat:=by
 cases o with
 |none=>
  injection h with h;subst h
  exact⟨none,rfl,fun dn e=>by subst e;rfl⟩
 |some x=>
  unfold Dl at h;simp only at h;cases e:aI t x with
  |none=>rw[e] at h;cases h
  |some z=>
   rw[e] at h;cases z<;>simp only at h<;>first|(cases h;done)|skip
   rename_i k n;injection h with h;subst h
   refine⟨some<|.int k n,?_,fun dn _=>?_⟩
   ·show(match aI t x with|none=>none|some v=>some<|some v)=_;rw[e]
   ·show within n (tU+1)=_;exact MM h0 aj
theorem YQ{op:Op}{x:TypeId×Operand×Operand×Operand}(h:Mc op=some x):op= .slice x.1 x.2.1 none (some x.2.2.1) (some x.2.2.2):=by
 unfold Mc at h;split at h
 ·injection h with h;subst h;rfl
 ·cases h
theorem agP{P:Program}{YO:aK}{t:Tr AV}{s:AS}{x:TypeId×Operand×Option Operand×Option Operand}{len K:Nat}{hi:Int}(hx:aI t x.2.1=some (.slice (some (n,0)) len cap))(hk:rz P x.1=some K)(h1:Dl t x.2.2.1 0=some 0)(h2:Dl t x.2.2.2 (Int.ofNat len)=some hi)(hc:kept cap=true)(a1:0<=hi)(a2:hi<=Int.ofNat (iP len cap)):
 (dI P<|.slice x.1 x.2.1 x.2.2.1 x.2.2.2 none).val YO t s= .ok (.slice (some (n,0)) hi.toNat cap) s:=by
 obtain⟨y1,e1,f1⟩:=RK (tU:=hi.toNat) h1 aj aj;obtain⟨y2,e2,f2⟩:=RK (tU:=iP len cap) h2 a1 a2;show td P x.1 x.2.1 x.2.2.1 x.2.2.2 none YO t s=_;unfold td;rw[hx,ch,e1,ch,e2,ch];show lift (w6 P x.1 (.slice (some (n,0)) len cap) y1 y2 none) s=_;have:w6 P x.1 (.slice (some (n,0)) len cap) y1 y2 none=some (.slice (some (n,0)) hi.toNat cap):=by
  unfold rz at hk;split at hk<;>first|(cases hk;done)|skip
  rename_i e hu;unfold w6;rw[hu];have f1':=f1 0 rfl;simp only[hk,f2 len rfl];rw[f1'];cases cap with
  |known c=>
   show(match Nat.beq c 0 with
    |true=>some (AV.slice (some (n,0)) (hi.toNat - 0)<|.known<|c - 0)
    |false=>some<|AV.slice (some (n,0+0*K)) (hi.toNat - 0)<|.known<|c - 0)=_
   rw[Nat.zero_mul];cases Nat.beq c 0<;>rfl
  |aq b e=>rfl
  |lost=>cases hc
 rw[this];rfl
theorem agQ{P:Program}{YO:aK}{t:Tr AV}{s:AS}{x:TypeId×Operand×Operand×Operand}{len K:Nat}{hi mx:IntKind×Int}(hx:aI t x.2.1=some (.slice (some (n,0)) len cap))(hk:rz P x.1=some K)(h1:aI t x.2.2.1=some (.int hi.1 hi.2))(h2:aI t x.2.2.2=some (.int mx.1 mx.2))(hc:kept cap=true)(a1:0<=hi.2)(a2:hi.2<=mx.2)(a3:mx.2<=Int.ofNat (iP len cap)):
 (dI P<|.slice x.1 x.2.1 none (some x.2.2.1)<|some x.2.2.2).val YO t s= .ok (.slice (some (n,0)) hi.2.toNat<|.known mx.2.toNat) s:=by
 show td P x.1 x.2.1 none (some x.2.2.1) (some x.2.2.2) YO t s=_;unfold td;have o1:opt (aI t) (some x.2.2.1)=some (some<|.int hi.1 hi.2):=by show(match aI t x.2.2.1 with|none=>none|some v=>some<|some v)=_;rw[h1]
 have o2:opt (aI t) (some x.2.2.2)=some (some<|.int mx.1 mx.2):=by show(match aI t x.2.2.2 with|none=>none|some v=>some<|some v)=_;rw[h2]
 rw[hx,ch,show opt (aI t) none=some none from rfl,ch,o1,ch,o2,ch];show lift (w6 P x.1 (.slice (some (n,0)) len cap) none (some<|.int hi.1 hi.2)<|some<|.int mx.1 mx.2) s=_;have b1:bound (some<|.int mx.1 mx.2) (iP len cap) 0=some mx.2.toNat:=MM aj (by have:(Int.ofNat<|iP len cap)=((iP len cap:Nat):Int):=rfl;omega);have b2:bound (some<|.int hi.1 hi.2) mx.2.toNat 0=some hi.2.toNat:=MM a1 aj;have:w6 P x.1 (.slice (some (n,0)) len cap) none (some<|.int hi.1 hi.2) (some<|.int mx.1 mx.2)=some (.slice (some (n,0)) hi.2.toNat<|.known mx.2.toNat):=by
  unfold rz at hk;split at hk<;>first|(cases hk;done)|skip
  rename_i e hu;unfold w6;rw[hu];simp only[hk];have h3:slice3 K (some (n,0)) (iP len cap) none (some<|.int hi.1 hi.2) (.int mx.1 mx.2)=some (.slice (some (n,0)) hi.2.toNat<|.known mx.2.toNat):=by
   unfold slice3;rw[b1];simp only;rw[b2];show(match Nat.beq mx.2.toNat 0 with
    |true=>some (AV.slice (some (n,0)) (hi.2.toNat - 0)<|.known<|mx.2.toNat - 0)
    |false=>some<|AV.slice (some (n,0+0*K)) (hi.2.toNat - 0)<|.known<|mx.2.toNat - 0)=_
   rw[Nat.zero_mul];cases Nat.beq mx.2.toNat 0<;>rfl
  cases cap with
  |known c=>exact h3
  |aq b e=>exact h3
  |lost=>cases hc
 rw[this];rfl
theorem ack{P:Program}{m:Nat}{s:AS}(h:cT F n o k=some cs):bh P sp F m (.row n o k) [] s= .ok (.agg cs) s:=by
 have:qE F n o k s= .ok (.agg cs) s:=by
  unfold cT at h;unfold qE;split at h
  ·rename_i l e;split at h
   ·rename_i q;injection h with h;subst h
    rw[e,ch,q,dC];rfl
   ·cases h
  ·cases h
 cases m<;>exact this
theorem ZL{l:List AV}{z:Nat×List AV}(h:NW l=some z):l= .ptr (some (z.1,0))::z.2:=by
 unfold NW at h;split at h
 ·injection h with h;subst h;rfl
 ·cases h
theorem aa4{o:Option ab}{u:Nat×AV}(h:Pm o=some u):o=some (.tok u.1 u.2):=by
 unfold Pm at h;split at h
 ·injection h with h;subst h;rfl
 ·cases h
theorem CY{E:Env}(hE:E.Ok):∀(fuel n:Nat) (c:Li) (p:Pl) (rs:List ResultVar) (k:Kt) (C:zH) (G:AF->AS->Prop),Chunk E.P (bh E.P E.sp E.F n) G->
 (∀fr s j aV jm s1 x s2 p,dZ E.P (bh E.P E.sp E.F n) j fr s= .ok (.leave aV jm) s1->finish E.P rs aV jm s1= .ok x s2->k x s2 p->G fr s)->(∀fr s p,C fr s p->G fr s)->(∀f nt K t s l o nx p,E.fg=true->pH top l=true->pH top o=true->(Nat.ble s.nx nx&&Nat.ble nx top)=true->xE t l->xU s.h o->C ⟨f,aQ l,nt,K,[],none⟩ (ak o nx) p->G ⟨f,t,nt,K,[],none⟩ s)->(∀f nt K t s l0 o0 l o nx p,E.fg=true->l0.map (fun q=>t.get q.1)=l0.map (fun q=>some q.2)->o0.map (fun q=>s.h.get q.1)=o0.map (fun q=>q.2)->iV E.F E.lo s.nx l0 o0 l o nx->C ⟨f,aQ l,nt,K,[],none⟩ (ak o nx) p->G ⟨f,t,nt,K,[],none⟩ s)->(∀f nt K t s l o nx p,E.fg=true->pH top l=true->pH nx o=true->(Nat.ble nx s.nx&&(Nat.blt s.nx top&&Nat.ble E.lo nx))=true->xE t l->xU s.h o->xX nx l o->C ⟨f,aQ l,nt,K,[],none⟩ (ak o nx) p->G ⟨f,t,nt,K,[],none⟩ s)->wp E fuel n c p rs k C->Gof E.P (bh E.P E.sp E.F n) G c
 |0,n,c,p,rs,k,C,G,hG,hk,hC,hL,hR,hB,h=>h.elim
 |fuel+1,n,c,p,rs,k,C,G,hG,hk,hC,hL,hR,hB,h=>by
  have ih:=CY hE fuel;have h:QF E (wp E fuel) n c p rs k C:=h;unfold QF at h;cases c with
  |fr f nt K t s=>
   simp only at h;split at h
   ·obtain⟨x,s1,h1,h⟩:=F3 h;obtain⟨y,h2,h⟩:=bc h;rw[aa1 h2] at h1;exact hG _ _ _ _ _ h1<|ih n _ _ rs k C G hG hk hC hL hR hB h
   ·obtain⟨x,h1,h⟩:=bc h;obtain⟨id,rfl⟩:=ZK h1;exact lT.aiP hG<|ih n _ _ rs k C G hG hk hC hL hR hB h
   ·obtain⟨x,s1,h1,h⟩:=F3 h;obtain⟨y,h2,h⟩:=bc h;obtain⟨v,s2,h3,h⟩:=F3 h;rw[aa2 h2] at h1;exact hk _ _ _ _ _ _ _ _ _ h1 h3 h
   ·exact hC _ _ _ h
   ·obtain⟨h1,h2,h3,h⟩:=gT h;obtain⟨q0,h1⟩:=and_true.1 h1;obtain⟨q1,h1⟩:=and_true.1 h1;obtain⟨q2,h1⟩:=and_true.1 h1;obtain⟨q3,q4⟩:=and_true.1 h1;exact hL _ _ _ _ _ _ _ _ _ q0 q1 q2 q3 (Nr h2) (NX h3 q4) h
   ·obtain⟨h1,h2,h3,h4,h⟩:=gT h;obtain⟨q0,q1⟩:=and_true.1 h1;have q1:=Nat.eq_of_beq_eq_true q1;rw[←q1] at h4;exact hR _ _ _ _ _ _ _ _ _ _ _ q0 h2 h3 h4 h
   ·obtain⟨h1,h2,h3,h4,h⟩:=gT h;obtain⟨q0,h1⟩:=and_true.1 h1;obtain⟨q1,h1⟩:=and_true.1 h1;obtain⟨q2,h1⟩:=and_true.1 h1;obtain⟨q3,q4⟩:=and_true.1 h1;exact hB _ _ _ _ _ _ _ _ _ q0 q1 q2 q3 (Nr h2) (NX h3 q4) h4 h
   ·exact h.elim
  |rg f nt K ops D i t s=>
   simp only at h;split at h
   ·obtain⟨h1,h⟩:=gT h;obtain⟨x,s1,h2,h⟩:=F3 h;exact lT.go h1 h2<|ih n _ _ rs k C G hG hk hC hL hR hB h
   ·obtain⟨h1,h⟩:=gT h;obtain⟨h2,h⟩:=gT h;exact lT.done h1 h2<|ih n _ _ rs k C G hG hk hC hL hR hB h
   ·obtain⟨o,ho,h⟩:=bc h;obtain⟨hw,h⟩:=gT h;obtain⟨op,d,g⟩:=o;simp only at hw h;have hn:∀v s1 p,(dI E.P op).val (bh E.P E.sp E.F n) t (iw D s)= .ok v s1->(wo (ji nt t d v) fun t1=>wp E fuel n (.rg f nt K ops (KF D i s s1) (i+1) t1<|Ec D s s1) p rs k C)->lT E.P (bh E.P E.sp E.F n) G f nt K ops D i t s:=by intro v s1 p hv h;obtain⟨t1,hp,h⟩:=bc h;exact lT.op ho hw hv hp (ih n _ _ rs k C G hG hk hC hL hR hB h)
    generalize cQ:(fun(v:AV) (s1:AS) (p:Pl)=>wo (ji nt t d v) fun t1=>wp E fuel n (.rg f nt K ops (KF D i s s1) (i+1) t1<|Ec D s s1) p rs k C)=nx at h;have hn:∀v s1 p,(dI E.P op).val (bh E.P E.sp E.F n) t (iw D s)= .ok v s1->nx v s1 p->lT E.P (bh E.P E.sp E.F n) G f nt K ops D i t s:=by intro v s1 p hv h;rw[←cQ] at h;exact hn v s1 p hv h
    have kv:∀v h2 R W p,((D.isSome&&Nat.beq s.mark 0)||Nat.beq (iw D s).mark 0)=true->(∃rd wr,(∀k∈rd,k∈R\/k∈(iw D s).rd)/\(∀k∈wr,k∈W\/k∈(iw D s).wr)/\((iw D s).mark=0->rd=(iw D s).rd/\wr=(iw D s).wr)/\
     (dI E.P op).val (bh E.P E.sp E.F n) t (iw D s)= .ok v ⟨h2,(iw D s).nx+1,(iw D s).mark,rd,wr⟩)->nx v (KG (D.isSome&&Nat.beq s.mark 0) (iw D s) h2 R W) p->lT E.P (bh E.P E.sp E.F n) G f nt K ops D i t s:=by
     rintro v h2 R W p cV ⟨rd,wr,a1,a2,a3,hv⟩ h;cases QG:(D.isSome&&Nat.beq s.mark 0) with
     |false=>rw[QG] at cV h;have zX:=Nat.eq_of_beq_eq_true (show Nat.beq (iw D s).mark 0=true from cV);obtain⟨rfl,rfl⟩:=a3 zX;exact hn _ _ _ hv h
     |true=>
      rw[QG] at h;obtain⟨QH,hd2⟩:=and_true.1 QG;cases D with
      |none=>cases QH
      |some acc=>
       have hm:s.mark=0:=Nat.eq_of_beq_eq_true hd2;have a1:∀k∈rd,k∈R:=fun k hk=>(a1 k hk).resolve_right (by show ¬k∈([]:List Nat);simp);have a2:∀k∈wr,k∈W:=fun k hk=>(a2 k hk).resolve_right (by show ¬k∈([]:List Nat);simp);have h:nx v ⟨h2,(iw (some acc) s).nx+1,(iw (some acc) s).mark,R,W⟩ p:=h;rw[←cQ] at h;obtain⟨t1,hp,h⟩:=bc h;refine lT.op ho hw hv hp ?_;have H:=ih n _ _ rs k C G hG hk hC hL hR hB h;have e:Ec (some acc) s ⟨h2,(iw (some acc) s).nx+1,(iw (some acc) s).mark,rd,wr⟩=Ec (some acc) s ⟨h2,(iw (some acc) s).nx+1,(iw (some acc) s).mark,R,W⟩:=by show DM s _=DM s _;unfold DM;rw[hm,Ib,Ib,Ib,Ib]
       rw[e];exact qF.cover (PS:=acc++[KD i s ⟨h2,(iw (some acc) s).nx+1,(iw (some acc) s).mark,R,W⟩]) (nh.app (nh.refl acc) ⟨⟨rfl,fun n h=>Ta a1 n h,fun n h=>Ta a2 n h,rfl,rfl⟩,trivial⟩) H
    show lT E.P (bh E.P E.sp E.F n) G f nt K ops D i t s;unfold XU at h;split at h
    ·obtain⟨x,h1,h⟩:=bc h;obtain⟨a,h2,h⟩:=bc h;obtain⟨b,h3,h⟩:=bc h;obtain⟨a1,h4,h⟩:=bc h;obtain⟨b1,h5,h⟩:=bc h;obtain⟨h6,h⟩:=gT h;obtain⟨c,h7,hy,lY⟩:=bc h;have h6:=of_decide_eq_true h6;have e:=RI h1;rw[qZ h4] at h2;rw[qZ h5, ←h6] at h3;obtain⟨r,hr,XV⟩:=adF h7;have hv:(dI E.P op).val (bh E.P E.sp E.F n) t (iw D s)= .ok (.bool r) (iw D s):=by rw[e];exact afj h2 h3 hr
     cases r with
     |true=>exact hn _ _ _ hv<|hy<|XV.1 rfl
     |false=>exact hn _ _ _ hv (lY fun q=>by have:=XV.2 q;cases this)
    ·obtain⟨v',s1,h1,rfl,h⟩:=F3 h;exact hn _ _ _ h1 h
    ·obtain⟨x,h1,h⟩:=bc h;obtain⟨m,hm,h⟩:=bc h;obtain⟨val,h2,h⟩:=bc h;obtain⟨h3,h4,h⟩:=gT h;have e:=Fo hm;exact hn _ _ _ (by rw[e];exact Ax h1<|hE.n7 _ _ _ _ _ _ h2 h4 h3) h
    ·obtain⟨x,h1,h⟩:=bc h;obtain⟨m,hm,h⟩:=bc h;obtain⟨val,h2,h⟩:=bc h;obtain⟨h3,h4,hy,lY⟩:=gT h;have e:=Fo hm;have hv:=fun b (h4:val x.2=some (.bool b))=>(show(dI E.P op).val (bh E.P E.sp E.F n) t (iw D s)= .ok (.bool b) (E.cs<|iw D s) by rw[e];exact Ax (P:=E.P) h1<|hE.n7 _ _ _ _ _ m h2 h4 h3);exact acj h4 hy lY (fun q h=>hn _ _ _ (hv _ q) h) fun q h=>hn _ _ _ (hv _ q) h
    ·obtain⟨x,h1,h2,h⟩:=bc h;exact hn _ _ _ (Ax h1 h2) h
    ·obtain⟨x,h1,h2,h3,h⟩:=bc h;exact hn _ _ _ (Ax h1<|h2 _ h3) h
    ·obtain⟨x,h1,h⟩:=bc h;obtain⟨a,h2,h⟩:=bc h;obtain⟨a',h3,h⟩:=bc h;obtain⟨b,h4,h⟩:=bc h;obtain⟨m,h5,h⟩:=bc h;obtain⟨i1,h6,h⟩:=bc h;obtain⟨hb,k1,k2,k3,k4,k5,k6,k7,h⟩:=gT h;obtain⟨b1,hb⟩:=and_true.1 hb;obtain⟨b0,hb⟩:=and_true.1 hb;obtain⟨b2,hb⟩:=and_true.1 hb;obtain⟨b3,hb⟩:=and_true.1 hb;obtain⟨b4,b5⟩:=and_true.1 hb;have b1:=Nat.eq_of_beq_eq_true b1;obtain⟨ty,e,e1,e2,e3,e4,e5⟩:=HV h6;cases jt:E.P.info? e with
     |none=>rw[jt] at e3;cases e3
     |some i0=>rw[jt] at e3;simp only[Option.map_some,Option.some.injEq,Prod.mk.injEq] at e3;obtain⟨q1,q2,q3⟩:=e3;rw[aci h3,k1,k2,b1, ←q1] at h2;rw[aag h5] at h4;rw[←q1] at k5 k7 h b0;rw[←q2] at k6 e5;refine kv _ _ _ _ _ b5 ?_ h;rw[HU h1];obtain⟨rd,wr,d1,d2,d3,d4⟩:=afp h2 h4 e1 e2 jt (by rw[q3,e4];rfl) k3 k4 (by rw[b2,b3,b4];rfl) k5 ((blt_eq _ _).mp b0) e5 k6 k7;exact⟨rd,wr,fun k hk=>by rcases d1 k hk with rfl|rfl|h;exact .inl iH;exact .inl iH;exact .inr h,fun k hk=>by rcases d2 k hk with rfl|h;exact .inl iH;exact .inr h,d3,d4⟩
    ·obtain⟨x,h1,h⟩:=bc h;obtain⟨a,h2,h⟩:=bc h;obtain⟨a',h3,h⟩:=bc h;obtain⟨ad,h4,h⟩:=bc h;obtain⟨z,h5,h⟩:=bc h;obtain⟨z',h6,h⟩:=bc h;obtain⟨K1,h7,h⟩:=bc h;obtain⟨h8,h9,gE,h⟩:=gT h;refine hn _ _ _ ?_ h;rw[LW h1];rw[ZJ h3,h4] at h2;obtain⟨n0,o0⟩:=ad;have h8:o0=0:=Nat.eq_of_beq_eq_true h8;subst h8;rw[qZ h6] at h5;exact agN h2 h5 h7 h9 gE
    ·obtain⟨x,h1,h⟩:=bc h;obtain⟨a,h2,h⟩:=bc h;obtain⟨a',h3,h⟩:=bc h;obtain⟨z,h5,h⟩:=bc h;obtain⟨z',h6,h⟩:=bc h;obtain⟨K1,h7,h9,gE,h⟩:=bc h;refine hn _ _ _ ?_ h;rw[LW h1];rw[S9 h3] at h2;rw[qZ h6] at h5;exact afv h2 h5 h7 h9 gE
    ·obtain⟨x,h1,h⟩:=bc h;obtain⟨a,h2,h⟩:=bc h;obtain⟨a',h3,h⟩:=bc h;obtain⟨ag,h4,h⟩:=bc h;obtain⟨k1,h5,h⟩:=bc h;obtain⟨h6,h⟩:=gT h;obtain⟨h7,h⟩:=gT h;obtain⟨v,h8,h9,h⟩:=bc h;refine hn _ _ _ ?_ h;rw[HQ h1];rw[Ia h3] at h2;exact Pn h2 h4 h5 h6 h7 h8 h9
    ·obtain⟨x,h1,h⟩:=bc h;obtain⟨a,h2,h⟩:=bc h;obtain⟨a',h3,h⟩:=bc h;obtain⟨ag,h4,h⟩:=bc h;obtain⟨h5,h⟩:=gT h;obtain⟨h7,h8,hy,lY⟩:=gT h;have h5:ag=false:=by simpa using h5
     subst h5;rw[Ia h3] at h2;exact aa3 hy lY (fun e h=>hn _ _ _ (by rw[HQ h1];exact Pn h2 h4 rfl rfl h7 rfl<|by rw[h8,e]) h) fun e h=>hn _ _ _ (by rw[HQ h1];exact Pn h2 h4 rfl rfl h7 rfl<|by rw[h8,e]) h
    ·obtain⟨x,h1,h⟩:=bc h;obtain⟨a,h2,h⟩:=bc h;obtain⟨a',h3,h⟩:=bc h;obtain⟨ag,h4,h⟩:=bc h;obtain⟨z,hz,h⟩:=bc h;obtain⟨k1,h5,h⟩:=bc h;obtain⟨v,h8,h9,gE,h⟩:=bc h;refine hn _ _ _ ?_ h;rw[HQ h1];rw[aah h3] at h2;exact afx h2 h4 hz h5 h8 h9 gE
    ·obtain⟨x,h1,h⟩:=bc h;obtain⟨a,h2,h⟩:=bc h;obtain⟨a',h3,h⟩:=bc h;obtain⟨v,h4,h⟩:=bc h;obtain⟨k1,h5,h⟩:=bc h;obtain⟨h6,h⟩:=gT h;obtain⟨h7,h⟩:=gT h;obtain⟨h8,h⟩:=gT h;obtain⟨h9,gE,h⟩:=gT h;refine hn _ _ _ ?_ h;rw[YX h1];rw[Ia h3] at h2;exact afw h2 h4 h5 h6 h7 h8 h9 gE
    ·obtain⟨x,h1,h⟩:=bc h;obtain⟨h6,h⟩:=gT h;obtain⟨a,h2,h⟩:=bc h;obtain⟨b,h3,h⟩:=bc h;obtain⟨a1,h4,h⟩:=bc h;obtain⟨b1,h5,h⟩:=bc h;obtain⟨h8,h7,h⟩:=gT h;have ea:x.1= .rem:=by revert h6;split<;>intro h6<;>first|assumption|cases h6
     have h8:=of_decide_eq_true h8;refine hn _ _ _ ?_ h;rw[RI h1];rw[qZ h4] at h2;rw[qZ h5, ←h8] at h3;exact agO ea h2 h3 h7
    ·obtain⟨x,h1,h⟩:=bc h;obtain⟨a,h2,h⟩:=bc h;obtain⟨a',h3,h⟩:=bc h;obtain⟨b,h4,h⟩:=bc h;obtain⟨b',h5,h⟩:=bc h;obtain⟨i1,h6,h⟩:=bc h;obtain⟨hb,k1,k2,k3,k4,k5,k6,k7,k8,h⟩:=gT h;obtain⟨b1,hb⟩:=and_true.1 hb;obtain⟨b2,hb⟩:=and_true.1 hb;obtain⟨b3,b4⟩:=and_true.1 hb;obtain⟨ty,e,e1,e2,e3,e4,e5⟩:=HV h6;cases jt:E.P.info? e with
     |none=>rw[jt] at e3;cases e3
     |some i0=>rw[jt] at e3;simp only[Option.map_some,Option.some.injEq,Prod.mk.injEq] at e3;obtain⟨q1,q2,q3⟩:=e3;rw[AJ h3] at h2;rw[S9 h5] at h4;rw[←q1] at k4 k6 k8 h b1;rw[←q2] at k7 e5;refine kv _ _ _ _ _ b4 ?_ h;rw[HU h1];obtain⟨rd,wr,d1,d2,d3,d4⟩:=afo (s:=iw D s) (YO:=bh E.P E.sp E.F n) h2 k1 h4 e1 e2 jt (by rw[q3,e4];rfl) b1 k3 (fun s'=>ack k4) k5 k2 (by rw[b2,b3];rfl) k6 e5 k7 k8;exact⟨rd,wr,fun k hk=>by rcases d1 k hk with rfl|h;exact .inl iH;exact .inr h,fun k hk=>by rcases d2 k hk with rfl|h;exact .inl iH;exact .inr h,d3,d4⟩
    ·obtain⟨x,h1,h2,h⟩:=bc h;exact hn _ _ _ (aaf h1 h2) h
    ·obtain⟨x,h1,h⟩:=bc h;obtain⟨a,h2,h⟩:=bc h;obtain⟨a',h3,h⟩:=bc h;obtain⟨z,h5,h⟩:=bc h;obtain⟨z',h6,h⟩:=bc h;obtain⟨K1,h7,h9,gE,h⟩:=bc h;refine hn _ _ _ ?_ h;rw[LW h1];rw[Ia h3] at h2;rw[qZ h6] at h5;exact afu h2 h5 h7 h9 gE
    ·obtain⟨x,h1,h⟩:=bc h;obtain⟨m,hm,h⟩:=bc h;obtain⟨q,h2,h⟩:=bc h;obtain⟨z,h3,h⟩:=bc h;obtain⟨u,h4,h⟩:=bc h;obtain⟨h5,h6,h⟩:=gT h;obtain⟨c1,h5⟩:=and_true.1 h5;obtain⟨c2,h5⟩:=and_true.1 h5;obtain⟨c3,h5⟩:=and_true.1 h5;obtain⟨c4,c5⟩:=and_true.1 h5;have e:=Fo hm;have c2:q.1=u.1:=Nat.eq_of_beq_eq_true c2;refine hn _ _ _ ?_ h;rw[e];refine Ax h1 ?_;rw[ZL h3];exact hE.tt _ _ _ _ _ _ _ _ _ h2 c1 c3 c4 c5 (by rw[aa4 h4,c2]) h6
    ·obtain⟨x,h1,h⟩:=bc h;obtain⟨m,hm,h⟩:=bc h;obtain⟨q,h2,h⟩:=bc h;obtain⟨h5,h6,h⟩:=gT h;obtain⟨c1,c2⟩:=and_true.1 h5;have e:=Fo hm;refine hn _ _ _ ?_ h;rw[e];exact Ax h1<|hE.tn _ _ _ _ _ _ _ h2 c1 c2 h6
    ·obtain⟨x,h1,h⟩:=bc h;obtain⟨a,h2,h⟩:=bc h;obtain⟨n',h3,h⟩:=bc h;obtain⟨i',h4,h⟩:=bc h;obtain⟨i1,h5,h⟩:=bc h;obtain⟨y,h6,h⟩:=bc h;obtain⟨hb,h7,h8,h9⟩:=gT h;obtain⟨b1,hb⟩:=and_true.1 hb;obtain⟨b2,hb⟩:=and_true.1 hb;obtain⟨b3,hb⟩:=and_true.1 hb;obtain⟨b4,b5⟩:=and_true.1 hb;rw[S8 h3] at h2;rw[qZ h5,MI b3] at h4;have key:=afq (P:=E.P) (YO:=bh E.P E.sp E.F n) h2 h4 (So h6) b1 b2 (ach b4) h7 b5;rw[←YW h1] at key;cases hq:lA _ i1.2 with
     |true=>rw[hq,if_pos rfl] at key;exact hn _ _ _ key<|h8 hq
     |false=>rw[hq,if_neg (by intro e;cases e)] at key;exact hn _ _ _ key<|h9 hq
    ·obtain⟨x,h1,h⟩:=bc h;obtain⟨a,h2,h⟩:=bc h;obtain⟨n',h3,h⟩:=bc h;obtain⟨i',h4,h⟩:=bc h;obtain⟨i1,h5,h⟩:=bc h;obtain⟨v',h8,h⟩:=bc h;obtain⟨v1,h9,h⟩:=bc h;obtain⟨y,h6,h⟩:=bc h;obtain⟨hb,h7,h⟩:=gT h;obtain⟨b1,hb⟩:=and_true.1 hb;obtain⟨b2,hb⟩:=and_true.1 hb;obtain⟨b3,hb⟩:=and_true.1 hb;obtain⟨b4,hb⟩:=and_true.1 hb;obtain⟨b5,b6⟩:=and_true.1 hb;refine hn _ _ _ ?_ h;rw[Zm h1];rw[S8 h3] at h2;rw[qZ h5,MI b3] at h4;rw[qZ h9,MI b4] at h8;exact afr h2 h4 h8 (So h6) b1 b2 h7 b5 b6
    ·obtain⟨x,h1,h⟩:=bc h;obtain⟨a,h2,h⟩:=bc h;obtain⟨a',h3,h⟩:=bc h;obtain⟨K1,h4,h⟩:=bc h;obtain⟨nY,h5,h⟩:=bc h;obtain⟨jt,h6,h⟩:=bc h;obtain⟨h7,h8,h9,k1,hz⟩:=gT h;rw[h8] at h5;rw[AJ h3] at h2;refine hn _ _ _ ?_ hz;rw[YY h1];exact agP h2 h4 h5 h6 h7 h9 k1
    ·obtain⟨x,h1,h⟩:=bc h;obtain⟨a,h2,h⟩:=bc h;obtain⟨a',h3,h⟩:=bc h;obtain⟨K1,h4,h⟩:=bc h;obtain⟨hi,h5,h⟩:=bc h;obtain⟨jt,h6,h⟩:=bc h;obtain⟨mx,h7,h⟩:=bc h;obtain⟨EB,h8,h⟩:=bc h;obtain⟨h9,k1,k2,k3,h⟩:=gT h;rw[AJ h3] at h2;rw[qZ h6] at h5;rw[qZ h8] at h7;refine hn _ _ _ ?_ h;rw[YQ h1];exact agQ h2 h4 h5 h7 h9 k1 k2 k3
    ·obtain⟨x,h1,h⟩:=bc h;obtain⟨a,h2,h⟩:=bc h;obtain⟨a',h3,h⟩:=bc h;obtain⟨b,h4,h⟩:=bc h;obtain⟨b',h5,h⟩:=bc h;obtain⟨i1,h6,h⟩:=bc h;obtain⟨hb,k0,k1,k2,k3,k4,k5,k6,k7,k8,k9,sg,ym,h⟩:=gT h;obtain⟨b1,hb⟩:=and_true.1 hb;obtain⟨b2,hb⟩:=and_true.1 hb;obtain⟨b3,b4⟩:=and_true.1 hb;obtain⟨ty,e,e1,e2,e3,e4,e5⟩:=HV h6;cases jt:E.P.info? e with
     |none=>rw[jt] at e3;cases e3
     |some i0=>rw[jt] at e3;simp only[Option.map_some,Option.some.injEq,Prod.mk.injEq] at e3;obtain⟨q1,q2,q3⟩:=e3;rw[AJ h3,k0] at h2;rw[AJ h5] at h4;rw[←q1] at k6 k7 k8 h;rw[←q2] at sg e5;refine kv _ _ _ _ _ b4 ?_ h;rw[HU h1];obtain⟨rd,wr,d1,d2,d3,d4⟩:=afs (s:=iw D s) (YO:=bh E.P E.sp E.F n) h2 h4 e1 e2 jt (by rw[q3,e4];rfl) k1 k2 k3 k4 k5 k6 k7 k8 (by rw[b1,b2,b3];rfl) k9 e5 sg ym;exact⟨rd,wr,fun k hk=>by rcases d1 k hk with rfl|rfl|h;exact .inl iH;exact .inl iH;exact .inr h,fun k hk=>.inr<|d2 k hk,d3,d4⟩
    ·obtain⟨x,h1,h⟩:=bc h;obtain⟨a,h2,h⟩:=bc h;obtain⟨a',h3,h⟩:=bc h;obtain⟨b,h4,h⟩:=bc h;obtain⟨b',h5,h⟩:=bc h;obtain⟨i1,h6,h⟩:=bc h;obtain⟨hb,k0,kk,k1,k2,k3,k4,k5,k6,k7,k8,k9,sg,ym,h⟩:=gT h;obtain⟨b0,hb⟩:=and_true.1 hb;obtain⟨b1,hb⟩:=and_true.1 hb;obtain⟨b2,b3⟩:=and_true.1 hb;obtain⟨ty,e,e1,e2,e3,e4,e5⟩:=HV h6;cases jt:E.P.info? e with
     |none=>rw[jt] at e3;cases e3
     |some i0=>rw[jt] at e3;simp only[Option.map_some,Option.some.injEq,Prod.mk.injEq] at e3;obtain⟨q1,q2,q3⟩:=e3;rw[AJ h3,k0] at h2;rw[AJ h5] at h4;rw[←q1] at k6 k7 k8 h b0;rw[←q2] at sg e5;refine hn _ _ _ ?_ h;rw[HU h1];exact aft (s:=iw D s) (YO:=bh E.P E.sp E.F n) h2 h4 e1 e2 jt (by rw[q3,e4];rfl) kk k1 (by unfold xG at b0;exact(blt_eq _ _).mp b0) k2 k3 k4 k5 k6 k7 k8 (by rw[b1,b2,b3];rfl) k9 e5 sg ym
    ·obtain⟨x,h1,h⟩:=bc h;obtain⟨m,hm,h⟩:=bc h;have e:=Fo hm;split at h
     ·exact h.elim
     ·rename_i ux;obtain⟨fn,cq,h⟩:=bc h;obtain⟨body,cx,h⟩:=bc h;obtain⟨dL,h⟩:=gT h;obtain⟨oX,h⟩:=gT h;have dL:(fn.name == "runtime.NumGoroutine")=false:=by simpa using dL
      have H:=ih m _ _ _ nx (fun _ _ _=>False) (Ev E.P (bh E.P E.sp E.F m) fun aV jm s1=>∃v s2 p,finish E.P fn.results.toList aV jm s1= .ok v s2/\nx v s2 p) Chunk.ev (fun fr s j aV jm s1 v s2 p q1 q2 q3=>⟨j,aV,jm,s1,q1,v,s2,p,q2,q3⟩) (fun _ _ _ q=>q.elim) (fun _ _ _ _ _ _ _ _ _ _ _ _ _ _ _ q=>q.elim) (fun _ _ _ _ _ _ _ _ _ _ _ _ _ _ _ q=>q.elim) (fun _ _ _ _ _ _ _ _ _ _ _ _ _ _ _ _ q=>q.elim) h;obtain⟨j,aV,jm,s1,q1,v,s2,p,q2,q3⟩:=H;refine hn _ _ _ (Ax h1 ?_) q3;rw[e];show ki E.P E.sp x.1 (bh E.P E.sp E.F m) x.2 _=_;rw[Np ux cq cx dL];unfold uY;rw[oX,dC,M.bQ<|Ip q1];exact q2
    ·exact h.elim
theorem ax{B:Prop}(c:Prop)(x:c->A)(y:¬c->B):(c->A)/\(¬c->B):=⟨x,y⟩
theorem au.back{P:Program}{s:AS}{t:Tr AV}{nt f:Nat}{K:List Item}{o:List<|Nat×Option ab}{nx:Nat}(hl:pH top l=true)(ho:pH nx o=true)(hn:(Nat.ble nx s.nx&&(Nat.blt s.nx top&&Nat.ble J nx))=true)(hg:fM<=J)(ht:xE t l)(hh:xU s.h o)(he:xX nx l o)(H:au P B J Q ⟨f,aQ l,nt,K,[],none⟩<|ak o nx):au P B J Q ⟨f,t,nt,K,[],none⟩ s:=by
 obtain⟨n1,n2⟩:=and_true.1 hn;obtain⟨n2,n3⟩:=and_true.1 n2;have n1:=aM.1 n1;have n2:=(blt_eq _ _).mp n2;have n3:=aM.1 n3;let r:Nat->Nat:=fun k=>if k<nx\/top<=k then k else max k s.nx
 have r1:∀k,k<nx->r k=k:=fun k hk=>by show(if _ then _ else _)=_;rw[if_pos<|.inl hk]
 have r2:∀k,top<=k->r k=k:=fun k hk=>by show(if _ then _ else _)=_;rw[if_pos<|.inr hk]
 obtain⟨e1,e2⟩:=he r r1 r2;refine au.weaken (s2:=ak o nx) (t2:=aQ l) [] r (fun k hk=>r1 k aj) (fun k hk ht=>?_) r2 hg ⟨Nat.zero_le _,by show nx<=top;omega⟩ rfl rfl (fun _ h=>by cases h) (fun i y hy=>?_) (fun n o2 hn hg=>?_) (fun _ h=>by cases h) (fun n m x y hn hm h1 h2 e=>?_) H
 ·have Hd:nx<=k:=hk;show s.nx<=(if _ then _ else _)/\(if _ then _ else _)<top;rw[if_neg aj];omega
 ·have hm:=FE (fun p hp=>wT hl p hp) hy;exact⟨y,ht.mem _ hm,(e1 _ hm).z⟩
 ·have cU:∀p∈o,p.1<top:=fun p hp=>by have:=wT ho p hp;omega
  have hm:=wR cU hg;obtain⟨h1,h2⟩:=hh.mem _ hm;have bB:n<nx:=wT ho _ hm;rw[r1 n bB];exact⟨hn,h2 o2 rfl,o2,h1,gJ.refl _,(e2 _ hm o2 rfl).z⟩
 ·have cU:∀p∈o,p.1<top:=fun p hp=>by have:=wT ho p hp;omega
  have a1:n<nx:=wT ho _<|wR cU h1;have a2:m<nx:=wT ho _<|wR cU h2;rw[r1 n a1,r1 m a2] at e;exact e
theorem au.rn{P:Program}{s:AS}{t:Tr AV}{nt f:Nat}{K:List Item}{l0:List<|Nat×AV}{o0 o:List<|Nat×Option ab}{nx:Nat}(hg:fM<=J)(h1:l0.map (fun q=>t.get q.1)=l0.map (fun q=>some q.2))(h2:o0.map (fun q=>s.h.get q.1)=o0.map (fun q=>q.2))(hw:iV B.F J s.nx l0 o0 l o nx)(H:au P B J Q ⟨f,aQ l,nt,K,[],none⟩<|ak o nx):au P B J Q ⟨f,t,nt,K,[],none⟩ s:=by
 obtain⟨fz,r,r1,r2,r3,r4,r5,r6,r7,r8,r9⟩:=hw;have hs:∀(l0:List<|Nat×AV),l0.map (fun q=>t.get q.1)=l0.map (fun q=>some q.2)->∀p∈l0,t.get p.1=some p.2:=by
  intro l0;induction l0 with
  |nil=>intro _ p hp;cases hp
  |cons a l ih=>
   intro h p hp;simp only[List.map_cons,List.cons.injEq] at h;rcases List.mem_cons.1 hp with rfl|hp
   ·exact h.1
   ·exact ih h.2 p hp
 have ho:∀(o0:List<|Nat×Option ab),o0.map (fun q=>s.h.get q.1)=o0.map (fun q=>q.2)->∀p∈o0,s.h.get p.1=p.2:=by
  intro o0;induction o0 with
  |nil=>intro _ p hp;cases hp
  |cons a l ih=>
   intro h p hp;simp only[List.map_cons,List.cons.injEq] at h;rcases List.mem_cons.1 hp with rfl|hp
   ·exact h.1
   ·exact ih h.2 p hp
 have yn:∀n y,n<top->(gd o).get n=some y->(n,some y)∈o:=fun n y hn hg=>wR (fun p hp=>(r6 p hp).1) hg;refine au.weaken (s2:=ak o nx) (t2:=aQ l) fz r r1 (fun k hk ht=>r2 k hk ht) r3 hg ⟨Nat.zero_le _,r4⟩ rfl rfl (fun p hp=>?_) (fun i y hy=>?_) (fun n y hn hg=>?_) (fun p hp n y hn hg=>?_) (fun n m x y hn hm e1 e2 e=>?_) H
 ·obtain⟨q1,q2,N,t',z,q3,q4⟩:=r8 p hp;exact⟨q1,q2,N,t',z,ho o0 h2 _ q3,fun i x hx=>by obtain⟨i1,i2,i3,i4⟩:=q4 i x hx;exact⟨i1,i2,i3,fun ρ v hv=>AV.u0 afn i4 hv⟩⟩
 ·have hm:=FE (fun p hp=>(r5 p hp).1) hy;obtain⟨_,x,hx,hv⟩:=r5 _ hm;exact⟨x,hs l0 h1 _ hx,hv⟩
 ·obtain⟨_,q⟩:=r6 _<|yn n y hn hg;obtain⟨q1,q2,x,q3,q4,q5⟩:=q y rfl;exact⟨q1,q2,x,ho o0 h2 _ q3,q4,q5⟩
 ·exact r9 p hp _ (yn n y hn hg) iH
 ·exact r7 _ (yn n x hn e1) _ (yn m y hm e2) iH iH e
theorem xo{E:Env}(hE:E.Ok){P:Program}(hP:E.P=P){f nt:Nat}{t:Tr AV}{K:List Item}{s:AS}{R:AV->AS->Prop}(bY:P.follows .mixedOrders=true)(hc:fP P B<|bh E.P E.sp E.F n)(hl:∀t a,YN<|bh E.P E.sp E.F n t a)(hg:fM<=J)(gm:E.lo=J)(hF:B.F=E.F){C:zH}(hC:∀fr s p,C fr s p->au P B J (Fin P rs R) fr s)(fuel:Nat)(p:Pl)(x:T)(h:T=wp E fuel n (.fr f nt K t s) p rs (fun v s _=>R v s) C:=by as_aux_lemma=>kernel_rfl)(h0:Nat.ble J s.nx=true:=by as_aux_lemma=>kernel_rfl):au P B J (Fin P rs R) ⟨f,t,nt,K,[],none⟩ s:=by
 subst hP;have H:=CY hE fuel n (.fr f nt K t s) p rs (fun v s _=>R v s) C (zG E.P B J<|Fin E.P rs R) (Chunk.EH bY hc hl)
  (fun fr s j aV jm s1 v s2 p q1 q2 q3 h0=>au.leave bY hc hl q1 h0 ⟨v,s2,by rw[←Fl];exact q2,q3⟩) (fun fr s p q _=>hC fr s p q)
  (fun f nt K t s l o nx p _ q1 q2 q3 q4 q5 q6 _=>au.less q1 q2 q3 hg q4 q5<|hC _ _ _ q6) (fun f nt K t s l0 o0 l o nx p _ q1 q2 q3 q4 _=>au.rn hg q1 q2 (by rw[←gm,hF];exact q3)<|hC _ _ _ q4) (fun f nt K t s l o nx p _ q1 q2 q3 q4 q5 q6 q7 _=>au.back q1 q2 (by rw[←gm];exact q3) hg q4 q5 q6<|hC _ _ _ q7) (h▸x)
 exact zG.start h0 H
theorem mh{E:Env}(hE:E.Ok){P:Program}(hP:E.P=P){f nt:Nat}{t:Tr AV}{K:List Item}{s:AS}{R:AV->AS->Prop}(bY:P.follows .mixedOrders=true)(hc:fP P B<|bh E.P E.sp E.F n)(hl:∀t a,YN<|bh E.P E.sp E.F n t a)(fuel:Nat)(p:Pl)(x:T)(h:T=wp E fuel n (.fr f nt K t s) p rs (fun v s _=>R v s) (fun _ _ _=>False):=by as_aux_lemma=>kernel_rfl)(h0:Nat.ble J s.nx=true:=by as_aux_lemma=>kernel_rfl):au P B J (Fin P rs R) ⟨f,t,nt,K,[],none⟩ s:=by subst hP;have H:=CY hE fuel n (.fr f nt K t s) p rs (fun v s _=>R v s) (fun _ _ _=>False) (zG E.P B J<|Fin E.P rs R) (Chunk.EH bY hc hl) (fun fr s j aV jm s1 v s2 p q1 q2 q3 h0=>au.leave bY hc hl q1 h0 ⟨v,s2,by rw[←Fl];exact q2,q3⟩) (fun _ _ _ q=>q.elim) (fun _ _ _ _ _ _ _ _ _ _ _ _ _ _ _ q=>q.elim) (fun _ _ _ _ _ _ _ _ _ _ _ _ _ _ _ q=>q.elim) (fun _ _ _ _ _ _ _ _ _ _ _ _ _ _ _ _ q=>q.elim)<|h▸x;exact zG.start h0 H
def pV(E:Env)(n:Nat)(rs:List ResultVar)(R:AV->AS->Prop)(fr:AF)(s:AS):Prop:=Ev E.P (bh E.P E.sp E.F n) (fun aV jm s1=>∃v s2,finish E.P rs aV jm s1= .ok v s2/\R v s2) fr s
theorem DO{E:Env}(hE:E.Ok)(uy:E.fg=false){f nt:Nat}{t:Tr AV}{K:List Item}{s:AS}{R:AV->AS->Prop}{C:zH}(hC:∀fr s p,C fr s p->pV E n rs R fr s)(fuel:Nat)(p:Pl)(x:T)(h:T=wp E fuel n (.fr f nt K t s) p rs (fun v s _=>R v s) C:=by as_aux_lemma=>kernel_rfl):pV E n rs R ⟨f,t,nt,K,[],none⟩ s:=CY hE fuel n (.fr f nt K t s) p rs (fun v s _=>R v s) C (pV E n rs R) Chunk.ev (fun fr s j aV jm s1 v s2 p q1 q2 q3=>⟨j,aV,jm,s1,q1,v,s2,q2,q3⟩) hC (fun _ _ _ _ _ _ _ _ _ q=>by rw[uy] at q;cases q) (fun _ _ _ _ _ _ _ _ _ _ _ q=>by rw[uy] at q;cases q) (fun _ _ _ _ _ _ _ _ _ q=>by rw[uy] at q;cases q)<|h▸x
theorem pV.call{E:Env}{g:Nat}{fn:Func}{body:Code}{args:List AV}{s:AS}{R:AV->AS->Prop}(cq:E.P.funcs[g]? =some fn)(cx:fn.body=some body)(H:pV E n fn.results.toList R ⟨g,ep args,max fn.ntmps args.length,[.code body],[],none⟩ s)(h0:((fn.name == "runtime.NumGoroutine"),(E.sp g).isNone,Nat.ble (max fn.ntmps args.length) top)=(false,true,true):=by as_aux_lemma=>kernel_rfl):∃v s2,bh E.P E.sp E.F (n+1) (.fn g) args s= .ok v s2/\R v s2:=by
 injection h0 with dL h0
 injection h0 with ux oX
 have aiQ:E.sp g=none:=Option.isNone_iff_eq_none.1 ux;obtain⟨j,aV,jm,s1,q1,v,s2,q2,q3⟩:=H;refine⟨v,s2,?_,q3⟩;show ki E.P E.sp g (bh E.P E.sp E.F n) args s=_;rw[Np aiQ cq cx dL];unfold uY;rw[oX,dC,M.bQ<|Ip q1];exact q2
end Go.Rn
namespace Go.Rn
open Go.RowKit
variable {α:Type} {l:List α} {i K:Nat} {enc:α->List AV} {c c0 c':α} {r:List AV}
theorem tfb{A B:Prop}(b:Bool)(x:b=true->A)(y:b=false->B):(b=true->A)/\(b=false->B):=⟨x,y⟩
theorem jO(he:∀x,(enc x).length=K)(hl:l.length*K<=top)(hc:l[i]? =some c)(j k:Nat)(hj:Nat.ble (j+k) K=true):cellsOf (some<|aN enc l) (i*K+j) k=some (((enc c).drop j).take k):=by have Cd:=aM.1 hj;obtain⟨q1,q2⟩:=UH he (k:=k) hc Cd;show(match Nat.ble (i*K+j+k) (l.map enc).flatten.length with|true=>lp (Tr.fill (l.map enc).flatten 0 .nil) [] k (i*K+j)|false=>none)=_;rw[aM.2 q1];show lp (Tr.fill (l.map enc).flatten 0 .nil) [] k (i*K+j)=_;rw[Ma (by rw[uN he];exact hl) _ _ q1,q2]
theorem adG(he:∀x,(enc x).length=K)(hl:l.length*K<=top)(hc:l[i]? =some c0)(j k:Nat)(hj:Nat.ble (j+k) K=true):cellsOf (some<|aN enc<|l.set i c) (i*K+j) k=some (((enc c).drop j).take k):=jO he (by rw[List.length_set];exact hl) (TQ hc) j k hj
theorem oA(he:∀x,(enc x).length=K)(hl:l.length*K<=top)(hc:l[i]? =some c)(j:Nat)(hr:enc c'=ib (enc c) j r)(hj:Nat.ble (j+r.length) K=true)(h1:r.all AV.cf=true):xF (some<|aN enc l) (i*K+j) r=some (aN enc<|l.set i c'):=by
 have Cd:=aM.1 hj;obtain⟨q1,_⟩:=UH he (k:=r.length) hc Cd;have GG:=ace he hc hr Cd;have hlen:(l.map enc).flatten.length<=top:=by rw[uN he];exact hl
 show(match (Nat.ble (i*K+j+r.length) (l.map enc).flatten.length&&(Nat.ble (l.map enc).flatten.length top&&r.all AV.cf)) with|true=>some (ab.cells (l.map enc).flatten.length (Tr.fill r (i*K+j)<|Tr.fill (l.map enc).flatten 0 .nil) [])|false=>none)=_;rw[show(Nat.ble (i*K+j+r.length) (l.map enc).flatten.length&&(Nat.ble (l.map enc).flatten.length top&&r.all AV.cf))=true from and_true.2 ⟨aM.2 q1,and_true.2 ⟨aM.2 hlen,h1⟩⟩];show some _=some _;congr 1;unfold aN;rw[S6 r _ _ q1 hlen,GG,uN he,uN he,List.length_set]
theorem adH(he:∀x,(enc x).length=K)(hl:l.length*K<=top)(hc:l[i]? =some c0)(j:Nat)(hr:enc c'=ib (enc c) j r)(hj:Nat.ble (j+r.length) K=true)(h1:r.all AV.cf=true):xF (some<|aN enc<|l.set i c) (i*K+j) r=some (aN enc<|l.set i c'):=by rw[oA he (by rw[List.length_set];exact hl) (TQ hc) j hr hj h1,List.set_set]
end Go.Rn
namespace Go.Rn
open Go.RowKit
def GQ(nx:Nat)(x:AV):Bool:=match x with
 | .U n _ _=>Nat.blt n nx&&Nat.blt n top
 | .func (.func _) [] []=>true
 | .slice none 0 (.known 0)=>true
 |x=>x.flat
theorem bw.aa5{r:Nat->Nat}{n o len:Nat}(e:r n=n)(h:n<top):bw r (.U n o len)<|.U n o len:=by intro ρ v k;simp only[VR] at k ⊢;exact k.imp id fun⟨b,sh,c,h1,h2⟩=>⟨b,sh,c,.inl ⟨by omega,(congrArg ρ e).trans<|h1.low aj⟩,h2⟩
theorem TV{nx:Nat}{x:AV}{r:Nat->Nat}(r1:∀k,k<nx->r k=k)(h:GQ nx x=true):bw r x x:=by
 unfold GQ at h;split at h
 ·obtain⟨h1,h2⟩:=and_true.1 h;exact bw.aa5 (r1 _<|(blt_eq _ _).mp h1)<|(blt_eq _ _).mp h2
 ·intro ρ v k;simp only[VR,aA] at k ⊢;exact k
 ·exact bw.acb
 ·exact bw.flat h
noncomputable def GR(nx:Nat)(t:Tr AV):Nat->Bool
 |0=>true
 |n+1=>(match t.get n with|some x=>GQ nx x|none=>true)&&GR nx t n
theorem NY{nx:Nat}{t:Tr AV}:∀{n i:Nat} {x:AV},GR nx t n=true->i<n->t.get i=some x->GQ nx x=true
 |0,_,_,_,h,_=>by omega
 |n+1,i,x,h,hi,hx=>by
  obtain⟨h1,h2⟩:=and_true.1 (show((match t.get n with|some x=>GQ nx x|none=>true)&&GR nx t n)=true from h);by_cases q:i=n
  ·subst q;rw[hx] at h1;exact h1
  ·exact NY h2 aj hx
noncomputable def PT(nx:Nat)(o:ab):Bool:=match o with
 | .ro n t=>GR nx t n
 | .tF n t=>GR nx t n
 |_=>false
theorem acm{nx:Nat}{o:ab}{r:Nat->Nat}(r1:∀k,k<nx->r k=k)(h:PT nx o=true):mu r o o:=by
 unfold PT at h;split at h
 ·intro ρ N ob k;simp only[OR] at k ⊢;obtain⟨c,e,fr,k1,k2,k3,k4⟩:=k;exact⟨c,e,fr,k1,k2,k3,fun i hi=>let ⟨x,v,a1,a2,a3,a4⟩:=k4 i hi;⟨x,v,a1,a2,a3,TV r1 (NY h hi a1) ρ v a4⟩⟩
 ·intro ρ N ob k;simp only[OR] at k ⊢;obtain⟨c,e,fr,k1,k4⟩:=k;exact⟨c,e,fr,k1,fun i hi=>let ⟨x,v,a1,a2,a3,a4⟩:=k4 i hi;⟨x,v,a1,a2,a3,TV r1 (NY h hi a1) ρ v a4⟩⟩
 ·cases h
theorem FG{nx:Nat}{o:List<|Nat×Option ab}{r:Nat->Nat}(r1:∀k,k<nx->r k=k)(h:(o.all fun p=>match p.2 with|some x=>PT nx x|none=>true)=true):∀p∈o,∀x,p.2=some x->mu r x x:=by intro p hp x hx;have:=List.all_eq_true.1 h p hp;rw[hx] at this;exact acm r1 this
end Go.Rn
namespace Go.Rn
theorem apI{α:Type}(enc:α->List AV)(l:List α)(c:α){K pW:Nat}{X:Prop}(h1:∀x,(enc x).length=K/\(enc x).all AV.cf=true)(h2:2*(l.length+1)*pW+4096*pW<=room)(h3:(l.length+1)*K<=Rn.top)(x:X):l.length=l.length/\l.length=l.length/\some (aN enc l)=some (aN enc l)/\some (ab.cells (enc c).length (Tr.fill (enc c) 0 .nil) [])=some (ab.cells (enc c).length (Tr.fill (enc c) 0 .nil) [])/\(∀x,(enc x).length=K/\(enc x).all AV.cf=true)/\2*(l.length+1)*pW+4096*pW<=room/\(l.length+1)*K<=Rn.top/\X:=⟨rfl,rfl,rfl,rfl,h1,h2,h3,x⟩
end Go.Rn
namespace Go.Rn
open Go.RowKit
variable {J K k:Nat} {α:Type} {ρ:aw} {v x:AV} {enc:α->List AV} {args cs:List AV} {w:World} {ns:List Nat} {h0 h:Tr ab} {B:aL}
def qu:List Nat->Nat
 |[]=>0
 |x::l=>pr x<|qu l
theorem VB(a b:Nat):0<pr a b:=Nat.mul_pos (Nat.pow_pos aj) aj
theorem MO:∀{l m:List Nat},qu l=qu m->l=m
 |[],[],_=>rfl
 |[],x::m,h=>by have:=VB x<|qu m;simp only[qu] at h;omega
 |x::l,[],h=>by have:=VB x<|qu l;simp only[qu] at h;omega
 |x::l,y::m,h=>by obtain⟨h1,h2⟩:=fI (show pr x (qu l)=pr y (qu m) from h);rw[h1,MO h2]
def Bx:Int->Nat
 | .ofNat n=>2*n
 | .negSucc n=>2*n+1
theorem aa6:∀{a b:Int},Bx a=Bx b->a=b
 | .ofNat n,.ofNat m,h=>by have h:2*n=2*m:=h;rw[show n=m by omega]
 | .ofNat n,.negSucc m,h=>by have h:2*n=2*m+1:=h;omega
 | .negSucc n,.ofNat m,h=>by have h:2*n+1=2*m:=h;omega
 | .negSucc n,.negSucc m,h=>by have h:2*n+1=2*m+1:=h;rw[show n=m by omega]
def xH:AV->Nat
 | .bool b=>pr 0 b.toNat
 | .int k n=>pr 1<|pr k.ctorIdx<|Bx n
 | .str s=>pr 2<|qu<|s.data.toList.map UInt8.toNat
 | .U n o len=>pr 3<|pr n<|pr o len
 | .nilFunc=>pr 4 0
 | .nilIface=>pr 4 1
 | .ptr none=>pr 4 2
 | .map none=>pr 4 3
 |_=>0
def AV.ga(x:AV):Bool:=match x with
 | .bool _| .int _ _| .str _| .nilFunc| .nilIface| .ptr none| .map none=>true
 | .U n _ _=>Nat.ble top n
 |_=>false
theorem acn:∀{k l:IntKind},k.ctorIdx=l.ctorIdx->k=l:=by intro k l h;cases k<;>cases l<;>first|rfl|(exact absurd h iz)
theorem bytes_inj{s u:ByteArray}(h:s.data.toList.map UInt8.toNat=u.data.toList.map UInt8.toNat):s=u:=by
 have e:s.data.toList=u.data.toList:=by
  refine List.ext_getElem? fun i=>?_;have:=congrArg (fun l=>l[i]?) h;simp only[List.getElem?_map] at this;cases e1:s.data.toList[i]? with
  |none=>rw[e1] at this;cases e2:u.data.toList[i]? with
   |none=>rfl
   |some y=>rw[e2] at this;cases this
  |some x=>rw[e1] at this;cases e2:u.data.toList[i]? with
   |none=>rw[e2] at this;cases this
   |some y=>rw[e2] at this;simp only[Option.map_some,Option.some.injEq] at this;rw[UInt8.toNat_inj.1 this]
 obtain⟨⟨a⟩⟩:=s;obtain⟨⟨b⟩⟩:=u;have e:a=b:=e;rw[e]
theorem aa7:∀{x y:AV},x.ga=true->y.ga=true->xH x=xH y->x=y:=by
 intro x y hx hy h;cases x<;>first|(cases hx;done)|skip
 case bool a=>
  cases y<;>first|(cases hy;done)|skip
  case bool b=>have:=(fI (show pr 0 a.toNat=pr 0 b.toNat from h)).2;cases a<;>cases b<;>first|rfl|(exact absurd this iz)
  case ptr b=>cases b<;>first|(cases hy;done)|(exact absurd (fI (show pr 0 a.toNat=pr 4 2 from h)).1 iz)
  case map b=>cases b<;>first|(cases hy;done)|(exact absurd (fI (show pr 0 a.toNat=pr 4 3 from h)).1 iz)
  all_goals exact absurd (fI (show pr 0 a.toNat=pr _ _ from h)).1 iz
 case int k n=>
  cases y<;>first|(cases hy;done)|skip
  case int k' n'=>obtain⟨h3,h4⟩:=fI (fI (show pr 1 (pr k.ctorIdx<|Bx n)=pr 1 (pr k'.ctorIdx<|Bx n') from h)).2;rw[acn h3,aa6 h4]
  case ptr b=>cases b<;>first|(cases hy;done)|(exact absurd (fI (show pr 1 _=pr 4 2 from h)).1 iz)
  case map b=>cases b<;>first|(cases hy;done)|(exact absurd (fI (show pr 1 _=pr 4 3 from h)).1 iz)
  all_goals exact absurd (fI (show pr 1 _=pr _ _ from h)).1 iz
 case str u=>
  cases y<;>first|(cases hy;done)|skip
  case str u'=>rw[bytes_inj<|MO (fI (show pr 2 _=pr 2 _ from h)).2]
  case ptr b=>cases b<;>first|(cases hy;done)|(exact absurd (fI (show pr 2 _=pr 4 2 from h)).1 iz)
  case map b=>cases b<;>first|(cases hy;done)|(exact absurd (fI (show pr 2 _=pr 4 3 from h)).1 iz)
  all_goals exact absurd (fI (show pr 2 _=pr _ _ from h)).1 iz
 case U n o l=>
  cases y<;>first|(cases hy;done)|skip
  case U n' o' l'=>obtain⟨h3,h4⟩:=fI (fI (show pr 3 (pr n<|pr o l)=pr 3 (pr n'<|pr o' l') from h)).2;obtain⟨h5,h6⟩:=fI h4;rw[h3,h5,h6]
  case ptr b=>cases b<;>first|(cases hy;done)|(exact absurd (fI (show pr 3 _=pr 4 2 from h)).1 iz)
  case map b=>cases b<;>first|(cases hy;done)|(exact absurd (fI (show pr 3 _=pr 4 3 from h)).1 iz)
  all_goals exact absurd (fI (show pr 3 _=pr _ _ from h)).1 iz
 case nilFunc=>
  cases y<;>first|(cases hy;done)|rfl|skip
  case ptr b=>cases b<;>first|(cases hy;done)|(exact absurd (fI (show pr 4 0=pr 4 2 from h)).2 iz)
  case map b=>cases b<;>first|(cases hy;done)|(exact absurd (fI (show pr 4 0=pr 4 3 from h)).2 iz)
  case nilIface=>exact absurd (fI (show pr 4 0=pr 4 1 from h)).2 iz
  all_goals exact absurd (fI (show pr 4 0=pr _ _ from h)).1 iz
 case nilIface=>
  cases y<;>first|(cases hy;done)|rfl|skip
  case ptr b=>cases b<;>first|(cases hy;done)|(exact absurd (fI (show pr 4 1=pr 4 2 from h)).2 iz)
  case map b=>cases b<;>first|(cases hy;done)|(exact absurd (fI (show pr 4 1=pr 4 3 from h)).2 iz)
  case nilFunc=>exact absurd (fI (show pr 4 1=pr 4 0 from h)).2 iz
  all_goals exact absurd (fI (show pr 4 1=pr _ _ from h)).1 iz
 case ptr a=>
  cases a<;>first|(cases hx;done)|skip
  cases y<;>first|(cases hy;done)|skip
  case ptr b=>cases b<;>first|(cases hy;done)|rfl
  case map b=>cases b<;>first|(cases hy;done)|(exact absurd (fI (show pr 4 2=pr 4 3 from h)).2 iz)
  case nilIface=>exact absurd (fI (show pr 4 2=pr 4 1 from h)).2 iz
  case nilFunc=>exact absurd (fI (show pr 4 2=pr 4 0 from h)).2 iz
  all_goals exact absurd (fI (show pr 4 2=pr _ _ from h)).1 iz
 case map a=>
  cases a<;>first|(cases hx;done)|skip
  cases y<;>first|(cases hy;done)|skip
  case ptr b=>cases b<;>first|(cases hy;done)|(exact absurd (fI (show pr 4 3=pr 4 2 from h)).2 iz)
  case map b=>cases b<;>first|(cases hy;done)|rfl
  case nilIface=>exact absurd (fI (show pr 4 3=pr 4 1 from h)).2 iz
  case nilFunc=>exact absurd (fI (show pr 4 3=pr 4 0 from h)).2 iz
  all_goals exact absurd (fI (show pr 4 3=pr _ _ from h)).1 iz
theorem Sq:∀{l m:List AV},l.all AV.ga=true->m.all AV.ga=true->l.map xH=m.map xH->l=m
 |[],[],_,_,_=>rfl
 |[],_::_,_,_,h=>by cases h
 |_::_,[],_,_,h=>by cases h
 |x::l,y::m,hx,hy,h=>by obtain⟨a1,a2⟩:=and_true.1 (show(x.ga&&l.all AV.ga)=true from hx);obtain⟨b1,b2⟩:=and_true.1 (show(y.ga&&m.all AV.ga)=true from hy);simp only[List.map_cons,List.cons.injEq] at h;rw[aa7 a1 b1 h.1,Sq a2 b2 h.2]
noncomputable section
def nm(cs:List AV):Nat:=top+2+qu (cs.map xH)
open Classical in
def FU(n:Nat):Option<|List AV:=if h:∃cs:List AV,cs.all AV.ga=true/\nm cs=n then some h.choose else none
def aS(enc:α->List AV)(l:List α):AV:=.U (nm (l.map enc).flatten) 0 l.length
end
theorem cr(cs:List AV):top<=nm cs:=Nat.le_trans (Nat.le_add_right top 2)<|Nat.le_add_right _ _
theorem zo(cs:List AV):nm cs≠top/\nm cs≠top+1:=by unfold nm;omega
theorem DP(h:cs.all AV.ga=true):FU (nm cs)=some cs:=by have hx:∃ds:List AV,ds.all AV.ga=true/\nm ds=nm cs:=⟨cs,h,rfl⟩;unfold FU;rw[dif_pos hx];obtain⟨h1,h2⟩:=hx.choose_spec;exact congrArg some<|Sq h1 h<|MO (by have h3:top+2+qu (hx.choose.map xH)=top+2+qu (cs.map xH):=h2;omega)
theorem Ir(h:x.ga=true):x.cf=true:=by cases x<;>first|rfl|(cases h;done)
theorem CZ(h:x.ga=true):x.bG=true:=by
 cases x<;>first|rfl|(cases h;done)|skip
 ·rename_i a;cases a with
  |none=>rfl
  |some _=>cases h
 ·exact h
 ·rename_i a;cases a with
  |none=>rfl
  |some _=>cases h
theorem afy(h:cs.all AV.ga=true){off:Nat}(hk:off+k<=cs.length):cT FU (nm cs) off k=some ((cs.drop off).take k):=by unfold cT;rw[DP h];simp only[(aM.2 hk:Nat.ble (off+k) cs.length=true)]
structure mw {α:Type} (K:Nat) (enc:α->List AV):Prop where
 len:∀a,(enc a).length=K
 ga:∀a,(enc a).all AV.ga=true
theorem mw.all(h:mw K enc):∀l:List α,(l.map enc).flatten.all AV.ga=true
 |[]=>rfl
 |a::l=>by rw[List.map_cons,List.flatten_cons,List.all_append,h.ga a,mw.all h l];rfl
theorem mw.length(h:mw K enc)(l:List α):(l.map enc).flatten.length=l.length*K:=by
 have:=sL (K:=K) (l:=l.map enc) fun c hc=>by obtain⟨a,_,rfl⟩:=List.mem_map.1 hc;exact h.len a
 rw[this,List.length_map]
theorem Bi(h:mw K enc){l:List α}{i:Nat}{a:α}(ha:l[i]? =some a)(j k:Nat)(hk:j+k<=K):cT FU (nm (l.map enc).flatten) (i*K+j) k=some (((enc a).drop j).take k):=by
 have hi:=(List.getElem?_eq_some_iff.1 ha).1;have hle:i*K+K<=(l.map enc).flatten.length:=by rw[h.length];have:=Nat.mul_le_mul_right K (show i+1<=l.length from hi);rw[Nat.add_mul,Nat.one_mul] at this;exact this
 rw[afy (h.all l) aj];have hf:=Mi (l:=l.map enc) (K:=K) (i:=i) (c:=enc a) (fun c hc=>by obtain⟨a,_,rfl⟩:=List.mem_map.1 hc;exact h.len a) (by rw[List.getElem?_map,ha];rfl);have hd:((l.map enc).flatten.drop<|i*K+j).take k=((((l.map enc).flatten.drop<|i*K).take K).drop j).take k:=by rw[List.drop_take,List.take_take,List.drop_drop,Nat.min_eq_left aj]
 rw[hd,hf]
def gf(J:Nat)(ρ:aw):aw:=fun k=>if k<J then ρ k else gi ρ k
def rE(B:aL)(ρ:aw)(w:World):aL:=⟨fun k=>w.heap.size<=k,B.F,fun k=>ρ k≠none,B.inv,B.dA,B.mono⟩
theorem sW(ht:J<=top)(hk:top<=k):gf J ρ k=ρ k:=by unfold gf gi;rw[if_neg aj,if_pos hk]
noncomputable section
def pq(J:Nat)(ns:List Nat)(h0:Tr ab)(val:List AV->Option AV):aK->List AV->M AV:=fun _ args=>aH (args.all AV.hi) <| (fG J h0 ns).bind fun _=>aC (val args) fun v=>aH v.hi <| M.pure v
end
theorem YN.pq(J:Nat)(ns:List Nat)(h0:Tr ab)(val:List AV->Option AV)(YO:aK)(args:List AV):YN<|pq J ns h0 val YO args:=YN.aH fun _=>YN.bind (YN.fG J h0 ns) fun _=>YN.aC fun _ _=>YN.aH fun _=>YN.pure _
theorem H5{o p:ab}(h:oz J o p=true):o.mL=true:=by unfold oz at h;split at h<;>first|rfl|cases h
theorem DQ(ht:J<=top)(r:Rel B ρ h w)(dM:∀n o,n<top->h0.get n=some o->n∈ns)(eA:∀n∈ns,n<J)(a3:∀n∈ns,∃o p,h.get n=some o/\h0.get n=some p/\oz J o p=true):Rel (rE B ρ w) (gf J ρ) h0 w:=by
 have cz:∀n o,n<top->h0.get n=some o->o.mL=true/\∃b N o',gf J ρ n=some (b,N)/\w.heap[b]? =some o'/\OR (gf J ρ) N o o':=by
  intro n o hn ho;have iJ:=dM n o hn ho;obtain⟨p1,p2,c2,c3,c4⟩:=a3 n iJ;rw[ho] at c3;cases c3;obtain⟨b,N,o',i1,i2,i3,_⟩:=r.is n p1 hn c2;obtain⟨j1,j2⟩:=aab c4 i3;refine⟨j1,b,N,o',?_,i2,j2.mono fun k x e=>?_⟩
  ·unfold gf;rw[if_pos<|eA n iJ];exact i1
  ·have e:(if k<J then ρ k else none)=some x:=e;unfold gf;split at e
   ·rename_i q;rw[if_pos q];exact e
   ·cases e
 refine⟨fun n o hn ho=>?_,fun n m o p b N M hn hm h1 h2 cV _ _=>?_,fun n m es ex left cur hn ho=>?_,fun _ hk=>hk,fun i j m es ex left cur hI jr iR iU hi _ h1 _=>?_,fun n b sh e=>?_,uj.no (fun n k v hn hg=>by have:=(cz n _ hn hg).1;cases this) ⟨r.tk.1.1,fun n o hn ho _=>by have iJ:=dM n o hn ho;obtain⟨p1,p2,c2,c3,c4⟩:=a3 n iJ;rw[ho] at c3;cases c3;obtain⟨b,N,e1,e2⟩:=r.tk.1.2 n p1 hn c2<|H5 c4;exact⟨b,N,by unfold gf;rw[if_pos<|eA n iJ];exact e1,e2⟩⟩⟩
 ·obtain⟨h1,b,N,o',h2,h3,h4⟩:=cz n o hn ho;have h1:=ab.jY h1;exact⟨b,N,o',h2,h3,h4,fun q=>by rw[h1] at q;cases q⟩
 ·have e1:=ab.jY (cz n o hn h1).1;have e2:=ab.jY (cz m p hm h2).1;rw[e1,e2] at cV;rcases cV with q|q<;>cases q
 ·have:=(cz n _ hn ho).1;cases this
 ·have:=(cz i _ hi h1).1;cases this
 ·rw[sW ht<|fY _ _ _] at e;obtain⟨_,l,c,e',fr,g1,g2,g3,g4⟩:=r.fz n b sh e;refine⟨.inl e,l,c,e',fr,g1,g2,fun m o N hm ho hr _=>?_,fun i x hx=>?_⟩
  ·rw[ab.jY (cz m o hm ho).1] at hr;cases hr
  ·obtain⟨v,k1,k2,k3⟩:=g4 i x hx;refine⟨v,k1,VR.mono (fun k y q=>?_) _ _ k2,k3⟩;unfold gi at q ⊢;split at q
   ·rename_i hk;rw[if_pos hk,sW ht hk];exact q
   ·cases q
def cI(ρ σ:aw):aw:=fun k=>if top<=k then σ k else ρ k
theorem Jy{σ:aw}{h4:Tr ab}{w':World}{a:Nat}(ht:J<=top)(r:Rel B ρ h w)(q3:Rel (rE B ρ w) σ h4 w')(q4:cL (rE B ρ w) w w')(hle:(gf J ρ).le σ):
 Ext a a ρ (cI ρ σ)/\jl σ (cI ρ σ)/\Rel B (cI ρ σ) h w'/\cL B w w':=by
 have hold:∀k x,top<=k->ρ k=some x->σ k=some x:=fun k x hk e=>hle k x (by rw[sW ht hk];exact e);have hl:ρ.le<|cI ρ σ:=by
  intro k x e;unfold cI;by_cases hk:top<=k
  ·rw[if_pos hk];exact hold k x hk e
  ·rw[if_neg hk];exact e
 have cU:∀k,k<top->cI ρ σ k=ρ k:=fun k hk=>by unfold cI;rw[if_neg aj]
 have BJ:cL B w w':=⟨q4.os,q4.tape,q4.output,q4.size,fun k hk _=>q4.block k hk (by show ¬(w.heap.size<=k);omega)⟩;have Ka:∀b,b<w.heap.size->w'.heap[b]? =w.heap[b]? :=fun b hb=>q4.block b hb (by show ¬(w.heap.size<=b);omega);refine⟨⟨hl,fun k hk _=>cU k hk⟩,fun k x hk e=>by unfold cI;rw[if_pos hk];exact e,⟨?_,?_,?_,fun k hk=>r.size k<|Nat.le_trans q4.size hk,r.lone,?_,r.tk.of hl (fun _ _ _ e _=>e) q4.size (fun b hb _=>Ka b hb) (fun b1 _ hn m o N hm ho hr hb=>hn m o N hm ho hr (by rw[cU m hm] at hb;exact hb)) (fun j x sh hx _ e=>by
  unfold cI;rw[if_pos<|fY _ _ _];refine Classical.byContradiction fun q=>?_;rcases(q3.fz j x sh q).1 with z|z
  ·exact z e
  ·exact absurd hx (by have z:w.heap.size<=x:=z;omega))⟩,BJ⟩
 ·intro n o hn ho;obtain⟨b,N,o',h1,h2,h3,h5⟩:=r.is n o hn ho;exact⟨b,N,o',(cU n hn).trans h1,(Ka b<|gS h2).trans h2,h3.mono hl,h5⟩
 ·intro n m o p b N M hn hm h1 h2 cV e1 e2;rw[cU n hn] at e1;rw[cU m hm] at e2;exact r.one n m o p b N M hn hm h1 h2 cV e1 e2
 ·intro n m es ex left cur hn ho;obtain⟨hm,fC,b,N,bm,M,l,ay,seen,h1,h2,h3,h5,h6⟩:=r.iter n m es ex left cur hn ho;have u:oH ρ w' n m es ex left cur:=⟨b,N,bm,M,l,ay,seen,h1,h2,(Ka b<|gS h3).trans h3,(Ka bm<|gS h5).trans h5,h6⟩;exact⟨hm,fC,u.mono hl⟩
 ·intro n b sh e;have e:σ (hn n b sh)≠none:=by unfold cI at e;rw[if_pos<|fY _ _ _] at e;exact e
  obtain⟨g0,l,c,e',fr,g1,g2,_,g4⟩:=q3.fz n b sh e;have gG:(gi σ).le<|gi<|cI ρ σ:=by
   intro k x q;unfold gi at q ⊢;split at q
   ·rename_i hk;rw[if_pos hk];unfold cI;rw[if_pos hk];exact q
   ·cases q
  have mJ:∀i x,l[i]? =some x->∃v,c[sh+i]? =some v/\VR (gi<|cI ρ σ) x v/\x.cf=true:=fun i x hx=>by obtain⟨v,k1,k2,k3⟩:=g4 i x hx;exact⟨v,k1,VR.mono gG _ _ k2,k3⟩
  by_cases q:ρ (hn n b sh)≠none
  ·obtain⟨z0,l',c',e2,jV,z1,z2,z3,_⟩:=r.fz n b sh q;refine⟨z0,l,c,e',fr,g1,g2,fun m o N hm ho hr hb=>?_,mJ⟩;rw[cU m hm] at hb;exact z3 m o N hm ho hr hb
  ·have hb:w.heap.size<=b:=g0.resolve_left q;refine⟨.inr<|r.size b hb,l,c,e',fr,g1,g2,fun m o N hm ho hr iI=>?_,mJ⟩;rw[cU m hm] at iI;obtain⟨b1,N1,o1,h1,h2,_⟩:=r.is m o hm ho;rw[iI] at h1;cases h1;have:=gS h2;omega
noncomputable section
def bg(val:List AV->Option AV)(args:List AV):Option AV:=match args.all AV.hi with
 |true=>(val args).bind fun v=>match v.hi with
  |true=>some v
  |false=>none
 |false=>none
end
theorem fH{val:List AV->Option AV}(h:val args=some v)(ha:args.all AV.hi=true)(hv:v.hi=true):bg val args=some v:=by unfold bg;rw[ha,h];simp only[Option.bind_some,hv]
theorem aco{val:List AV->Option AV}(h:bg val args=some v):val args=some v/\args.all AV.hi=true/\v.hi=true:=by
 unfold bg at h;split at h
 ·rename_i ha;cases e:val args with
  |none=>rw[e] at h;cases h
  |some u=>
   rw[e] at h;simp only[Option.bind_some] at h;split at h
   ·rename_i hu;injection h with h;subst h;exact⟨rfl,ha,hu⟩
   ·cases h
 ·cases h
theorem aa8{val:List AV->Option AV}{YO:aK}{s:AS}(h:bg val args=some v)(hc:qG J h0 ns s=true):pq J ns h0 val YO args s= .ok v (dP J h0 ns s):=by obtain⟨h1,h2,h3⟩:=aco h;unfold pq;rw[h2,dC,M.bQ<|xm hc,h1,ch,h3,dC];rfl
end Go.Rn
namespace Go.Rn
open Go.RowKit
variable {n:Nat} {o:Option ab}
noncomputable def lk(n:Nat)(o:Option ab):M Unit:=fun s=>
 @AS.rec (fun _=>R Unit) (fun h nx mark rd wr=>
  @Bool.rec (fun _=>R Unit) .bad
   (@Option.rec ab (fun _=>R Unit) .bad
    (fun p=> @Bool.rec (fun _=>R Unit)
     (@Bool.rec (fun _=>R Unit) (.ok () ⟨h.put n o,nx,mark,rd,wr⟩) (.ok () ⟨h.put n o,nx,mark,n::rd,n::wr⟩)<|Nat.blt n mark)
     .bad (!p.kK))
    (h.get n))
   (and (Nat.blt n nx)<|Nat.blt n top)) s
theorem UJ{u:Unit}{s s1:AS}(h:lk n o s= .ok u s1):
 n<s.nx/\n<top/\(∃p,s.h.get n=some p/\(!p.kK)=false)/\s1=if n<s.mark then{s with h:=s.h.put n o,rd:=n::s.rd,wr:=n::s.wr} else{s with h:=s.h.put n o}:=by
 obtain⟨hh,nx,mark,rd,wr⟩:=s;have e:lk n o ⟨hh,nx,mark,rd,wr⟩= @Bool.rec (fun _=>R Unit) .bad
  (@Option.rec ab (fun _=>R Unit) .bad
   (fun p=> @Bool.rec (fun _=>R Unit)
    (@Bool.rec (fun _=>R Unit) (.ok () ⟨hh.put n o,nx,mark,rd,wr⟩) (.ok () ⟨hh.put n o,nx,mark,n::rd,n::wr⟩)<|Nat.blt n mark)
    .bad (!p.kK))
   (hh.get n))
  (and (Nat.blt n nx)<|Nat.blt n top):=rfl
 rw[e] at h;cases hb:and (Nat.blt n nx) (Nat.blt n top) with
 |false=>rw[hb] at h;cases h
 |true=>
  rw[hb] at h;have iI:=Bool.and_eq_true_iff.1 hb;rw[blt_eq,blt_eq] at iI;cases hg:hh.get n with
  |none=>rw[hg] at h;cases h
  |some p=>
   rw[hg] at h;cases hr:(!p.kK) with
   |true=>
    have h': @Bool.rec (fun _=>R Unit)
     (@Bool.rec (fun _=>R Unit) (.ok () ⟨hh.put n o,nx,mark,rd,wr⟩) (.ok () ⟨hh.put n o,nx,mark,n::rd,n::wr⟩)<|Nat.blt n mark)
     .bad (!p.kK)= .ok u s1:=h
    rw[hr] at h';cases h'
   |false=>
    have h': @Bool.rec (fun _=>R Unit)
     (@Bool.rec (fun _=>R Unit) (.ok () ⟨hh.put n o,nx,mark,rd,wr⟩) (.ok () ⟨hh.put n o,nx,mark,n::rd,n::wr⟩)<|Nat.blt n mark)
     .bad (!p.kK)= .ok u s1:=h
    rw[hr] at h';refine⟨iI.1,iI.2,⟨p,by first|exact hg|rfl,hr⟩,?_⟩;have uq: @Bool.rec (fun _=>R Unit) (.ok () ⟨hh.put n o,nx,mark,rd,wr⟩) (.ok () ⟨hh.put n o,nx,mark,n::rd,n::wr⟩) (Nat.blt n mark)= .ok u s1:=h';rw[yP] at uq;by_cases e:n<mark
    ·rw[if_pos e] at uq;injection uq with _ h3;simp[e, ←h3]
    ·rw[if_neg e] at uq;injection uq with _ h3;simp[e, ←h3]
theorem VC{s:AS}{p:ab}(h1:n<s.nx)(h2:n<top)(h3:s.h.get n=some p)(h4:(!p.kK)=false):
 lk n o s= .ok () (if n<s.mark then{s with h:=s.h.put n o,rd:=n::s.rd,wr:=n::s.wr} else{s with h:=s.h.put n o}):=by
 obtain⟨hh,nx,mark,rd,wr⟩:=s;have e:lk n o ⟨hh,nx,mark,rd,wr⟩= @Bool.rec (fun _=>R Unit) .bad
  (@Option.rec ab (fun _=>R Unit) .bad
   (fun p=> @Bool.rec (fun _=>R Unit)
    (@Bool.rec (fun _=>R Unit) (.ok () ⟨hh.put n o,nx,mark,rd,wr⟩) (.ok () ⟨hh.put n o,nx,mark,n::rd,n::wr⟩)<|Nat.blt n mark)
    .bad (!p.kK))
   (hh.get n))
  (and (Nat.blt n nx)<|Nat.blt n top):=rfl
 have hb:and (Nat.blt n nx) (Nat.blt n top)=true:=Bool.and_eq_true_iff.2 ⟨by rw[blt_eq];exact h1,by rw[blt_eq];exact h2⟩;have hg:hh.get n=some p:=h3;rw[e,hb,hg];show @Bool.rec (fun _=>R Unit) (@Bool.rec (fun _=>R Unit) (.ok () ⟨hh.put n o,nx,mark,rd,wr⟩) (.ok () ⟨hh.put n o,nx,mark,n::rd,n::wr⟩)<|Nat.blt n mark) .bad (!p.kK)=_;rw[h4];show @Bool.rec (fun _=>R Unit) (.ok () ⟨hh.put n o,nx,mark,rd,wr⟩) (.ok () ⟨hh.put n o,nx,mark,n::rd,n::wr⟩) (Nat.blt n mark)=_;rw[yP];by_cases e:n<mark<;>simp[e]
theorem YN.lk(n:Nat)(o:Option ab):YN<|lk n o:=by
 intro s v s1 fi h;obtain⟨h1,ht,⟨p,h2,h3⟩,rfl⟩:=UJ h;by_cases e:n<s.mark
 ·rw[if_pos e];refine⟨[n],[n],⟨rfl,rfl,Nat.le_refl _,fi.nx,rfl,fun k hk hn=>?_,fun _ h=>h,fun k hk gk=>?_⟩,fun A m0 t ag hA=>?_⟩
  ·show(s.h.put n o).get k=_;rw[Tr.du _ _ _ _ ht (by have:=fi.mark;have:=fi.nx;omega),if_neg<|by simpa using hn]
  ·show(s.h.put n o).get k=_;have:s.nx<=k:=hk;rw[Tr.du _ _ _ _ ht gk,if_neg aj]
  ·have hq:A n\/m0<=n:=by
    by_cases q:n<m0
    ·exact .inl<|hA n iH q
    ·exact .inr aj
   have hg:=ag.is n h1 hq;have hr:=VC (o:=o) (s:=t) (n:=n) (p:=p) Ew ht Ey h3;rw[←ag.mark,if_pos e] at hr;refine⟨_,hr,⟨ag.nx,by first|exact ag.mark|rfl,ag.low,fun k hk hq=>?_⟩,rfl,rfl,fun k hk hn=>?_,fun k hk gk=>?_⟩
   ·show(s.h.put n o).get k=(t.h.put n o).get k;have Hd:k<s.nx:=hk;have:=fi.nx;rw[Tr.du _ _ _ _ ht aj,Tr.du _ _ _ _ ht aj];by_cases q:k=n
    ·simp[q]
    ·rw[if_neg q,if_neg q];exact ag.is k hk hq
   ·show(t.h.put n o).get k=_;have:=fi.mark;have:=fi.nx;have:=ag.low;rw[Tr.du _ _ _ _ ht aj,if_neg<|by simpa using hn]
   ·show(t.h.put n o).get k=_;have:s.nx<=k:=hk;rw[Tr.du _ _ _ _ ht gk,if_neg aj]
 ·rw[if_neg e];refine⟨[],[],⟨rfl,rfl,Nat.le_refl _,fi.nx,rfl,fun k hk hn=>?_,fun _ h=>h,fun k hk gk=>?_⟩,fun A m0 t ag hA=>?_⟩
  ·show(s.h.put n o).get k=_;have:=fi.mark;have:=fi.nx;rw[Tr.du _ _ _ _ ht aj,if_neg aj]
  ·show(s.h.put n o).get k=_;have:s.nx<=k:=hk;rw[Tr.du _ _ _ _ ht gk,if_neg aj]
  ·have hg:=ag.is n h1<|.inr<|Nat.le_trans ag.low aj;have hr:=VC (o:=o) (s:=t) (n:=n) (p:=p) Ew ht Ey h3;rw[←ag.mark,if_neg e] at hr;refine⟨_,hr,⟨ag.nx,by first|exact ag.mark|rfl,ag.low,fun k hk hq=>?_⟩,rfl,rfl,fun k hk hn=>?_,fun k hk gk=>?_⟩
   ·show(s.h.put n o).get k=(t.h.put n o).get k;have Hd:k<s.nx:=hk;have:=fi.nx;rw[Tr.du _ _ _ _ ht aj,Tr.du _ _ _ _ ht aj];by_cases q:k=n
    ·simp[q]
    ·rw[if_neg q,if_neg q];exact ag.is k hk hq
   ·show(t.h.put n o).get k=_;have:=fi.mark;have:=fi.nx;have:=ag.low;rw[Tr.du _ _ _ _ ht aj,if_neg aj]
   ·show(t.h.put n o).get k=_;have:s.nx<=k:=hk;rw[Tr.du _ _ _ _ ht gk,if_neg aj]
section
variable {P:Program} {B:aL} {ρ:aw} {w:World} {s s1 s2:AS} {YO:aK}
theorem au.F4{pR:Nat}(hP:bE P){g:FuncId}{fn:Func}{body:Code}{args:List AV}{vs:Array Value}{R:AV->AS->Prop}(cq:P.funcs[g]? =some fn)(cx:fn.body=some body)(oX:max fn.ntmps args.length<=top)(H:au P B pR (Fin P fn.results.toList R) ⟨g,ep args,max fn.ntmps args.length,[.code body],[],none⟩ s)(fi:bD s)(r:Rel B ρ s.h w)(hg:gb ρ)(hf:∀k,s.nx<=k->k<top->ρ k=none)(hv:aA ρ args vs.toList):
 Calls P g vs w fun e w'=>∃v x s3,e= .returned v/\R x s3/\bD s3/\∃σ,(∀k,k<pR->k<top->σ k=ρ k)/\(∀k x,top<=k->ρ k=some x->σ k=some x)/\VR σ x v/\Rel B σ s3.h w'/\cL B w w':=by
 intro cs;let b:Frame:={(default:Frame) with fn:=g,kind:=.normal,roundOf:=none};let a:Act:={tmps:=vs++Array.replicate (fn.ntmps - vs.size) undef,defers:=[]};have th:Frame.enter P g vs .normal=b.atR a [.code body]:=by simp[Frame.enter,Frame.atR,cq,cx,b,a]
 have bS:Fr ρ ⟨g,ep args,max fn.ntmps args.length,[.code body],[],none⟩ b a:=⟨rfl,rfl,trivial,rfl,.cons (hP.code g fn body cq cx) .nil⟩;have aB:At B ρ s (max fn.ntmps args.length) (ep args) w a:=⟨HT hv _ oX,r,hg,oX,fi⟩;obtain⟨fr,j,s2,σ,a',w',⟨x,s3,pG,hR⟩,en,e0,Hu,e1,e2,e3,e4,e5,e6,e7,e8⟩:=H ρ w b a cs bS aB hf;have Pd:finish P fn.results.toList fr j s2= .ok x s3:=by rw[Fl];exact pG
 have z9:bD s2:=e2.cO;obtain⟨hj,u2,s4,rs,h7,h9,hx⟩:=H9 Pd;have mV:bD s4:=(YN.oq _).cO z9 h7;have np:Leaves j fr.todo:=e7;obtain⟨d1,d2,w2,d3,d4,d5⟩:=Fa (P:=P) (fr:=b) (cs:=cs) z9 e2.rel e3 h7;obtain⟨f1,f2,us,f3,f4⟩:=E9 (P:=P) (w:=w2) e2.tr mV d3 h9;have lG:bD s3:=(YN.qc P fr.tmps _).cO mV h9;have BI:Steps P (lone (b.atR a' fr.todo) cs w')<|lone {b.atR a' fr.todo with mode:=.returning} cs w':=by
  rcases hj with rfl|rfl
  ·have e:fr.todo=[]:=np;rw[e];exact .one<|stepR_end rfl
  ·obtain⟨k,e⟩:=np;rw[e];exact .one<|stepR_ret rfl
 have tM:=d5 {b.atR a' fr.todo with mode:=.returning} cs iH rfl;have kv:(results fn a'.tmps).run P w2= .ok (mg us) w2:=by
  unfold results;rw[Array.mapM_eq_mapM_toList];simp only[Sem.run_bind,map_eq_pure_bind,Sem.run_pure];refine Eq.trans (congrArg (fun r:Result (List Value)=>(r.andThen fun a w'=>Result.ok a.toArray w').andThen fun a w'=>Result.ok (if h:a.size=1 then a[0] else Value.tuple a) w') f3) ?_;have:∀l:List Value,(Result.ok (if h:l.toArray.size=1 then l.toArray[0] else Value.tuple l.toArray) w2:Result Value)= .ok (mg l) w2:=by
   intro l
   match l with
   |[]=>rfl
   |[v]=>rfl
   |v::v2::l=>simp[mg]
  exact this us
 refine⟨.returned<|mg us,w2,{b.atR a' fr.todo with mode:=.returning,defers:=[]},⟨_,x,s3,rfl,hR,lG,σ,e0,Hu,?_⟩,?_,rfl,?_⟩
 ·exact⟨by rw[hx];exact Io f4,by rw[f1];exact d3,e4.trans d4⟩
 ·rw[th];exact Steps.trans e8<|Steps.trans BI tM
 ·exact⟨rfl,rfl,rfl,fn,cq,kv⟩
end
abbrev TX:=Nat->AV->List (Nat×ab)->Prop
def xZ(loc ρ:aw):aw:=fun m=>if top<=m then ρ m else loc m
theorem aa9{loc ρ σ:aw}(h:∀m x,top<=m->ρ m=some x->σ m=some x):(xZ loc ρ).le<|xZ loc σ:=by
 intro k x e;unfold xZ at e ⊢;split at e
 ·rename_i q;rw[if_pos q];exact h k x q e
 ·rename_i q;rw[if_neg q];exact e
inductive nJ (X:TX) (J:Nat):Nat->AV->aw->World->Nat->(Nat->Prop)->Prop where
 | mk {k:Nat} {v:AV} {ρ:aw} {w:World} {b:Nat} {H:Nat->Prop} (L:List<|Nat×ab) (loc:aw) (bl:Nat->Nat) (H1:Nat->Nat->Prop) (N0:Nat)
   (hx:X k v L) (root:loc J=some (b,N0)) (low:∀m,m<J->loc m=none)
   (is:∀m o,(m,o)∈L->∃N o',loc m=some (bl m,N)/\w.heap[bl m]? =some o'/\OR (xZ loc ρ) N o o'/\H (bl m))
   (one:∀m n o p,(m,o)∈L->(n,p)∈L->bl m=bl n->m=n)
   (tok:∀m k' v',(m,ab.tok k' v')∈L->nJ X J k' v' ρ w (bl m) (H1 m))
   (Kb:∀m k' v',(m,ab.tok k' v')∈L->H1 m (bl m))
   (sub:∀m k' v',(m,ab.tok k' v')∈L->∀x,H1 m x->H x)
   (own:∀m k' v' n o,(m,ab.tok k' v')∈L->(n,o)∈L->o.kK=false->¬H1 m (bl n))
   (apart:∀m k' v' n Lj wj x,(m,ab.tok k' v')∈L->(n,ab.tok Lj wj)∈L->m≠n->H1 m x->¬H1 n x):nJ X J k v ρ w b H
theorem nJ.mono{X:TX}{J k:Nat}{v:AV}{ρ:aw}{w:World}{b:Nat}{H:Nat->Prop}(h:nJ X J k v ρ w b H):∀{σ:aw} {w':World},(∀m x,top<=m->ρ m=some x->σ m=some x)->(∀x,H x->w'.heap[x]? =w.heap[x]?)->nJ X J k v σ w' b H:=by
 induction h with
 |mk L loc bl H1 N0 hx root low is one tok Kb sub own apart ih=>intro σ w' hm hw;refine .mk L loc bl H1 N0 hx root low (fun m o yn=>?_) one (fun m k' v' yn=>ih m k' v' yn hm fun x q=>hw x<|sub m k' v' yn x q) Kb sub own apart;obtain⟨N,o',a1,a2,a3,a4⟩:=is m o yn;exact⟨N,o',a1,(hw _ a4).trans a2,a3.mono<|aa9 hm,a4⟩
def lr(ns:List Nat)(o:ab):Prop:=∀(σ:aw) (N:Nat) (o':Obj),OR σ N o o'->OR (fun m=>if top<=m\/m∈ns then σ m else none) N o o'
structure yo (X:TX) (J:Nat):Prop where
 nm:∀k v L,X k v L->∀p∈L,J<=p.1/\p.1<top/\(p.2.own=true\/p.2.kK=true)/\lr (L.map (·.1)) p.2
 root:∀k v L,X k v L->∃o,(J,o)∈L
theorem MP:∀{L:List<|Nat×ab},(∀p∈L,p.1<n)->∀p∈bx L,p.1<n
 |[],_,p,hp=>by cases hp
 |a::l,h,p,hp=>by
  rcases List.mem_cons.1 hp with rfl|hp
  ·exact h a List.mem_cons_self
  ·exact MP (fun q hq=>h q<|List.mem_cons_of_mem _ hq) p hp
end Go.Rn
