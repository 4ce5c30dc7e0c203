import Derived.Test.YtgnieaajkdangaaDoorRnGE
import Derived.Shelf.Spec.TrailingZeros
set_option maxRecDepth 100000
set_option maxHeartbeats 8000000
set_option linter.unusedSimpArgs false
namespace Go.Rn
open Go.RowKit
variable {v:AV} {n k aI m off:Nat} {x:TypeId×Operand×Operand} {cs:List AV} {α:Type} {sp:Sp} {B A T c X:Prop} {x':cT} {rs:List ResultVar} {b a:Int} {ag:Bool} {K1:(List AV->Option AV)->bf->List AV->M AV} {ty:TypeId} {lz:FuncId->Option (List AV->Option AV)} {l:List (Nat×AV)} {ik:IntKind} {Q:Tr AV->List Nat->Option Code->AS->Prop} {F:Nat->Option (List AV)}
noncomputable section
inductive Pl where
 |no
 |st (k:Nat) (p:Pl)
 |rg (p:Pl)
 |go (n:Nat) (p:Pl)
 |en (p:Pl)
 |fk (p q:Pl)
 |vl (v:AV) (p:Pl)
 |kn (v:AV) (p:Pl)
 |kp (c:Prop) (d:Decidable c) (p q:Pl)
 |ef (p q:Pl)
 |c2 (φ:Prop) (v1:AV) (L1:List (Nat×Option aE)) (v2:AV) (L2:List (Nat×Option aE)) (ep:Nat) (R W:List Nat) (p q:Pl)
 |ap (α:Type) (enc:α->List AV) (l:List α) (c:α) (p:Pl)
 |al (α:Type) (enc:α->List AV) (l L:List α) (p:Pl)
 |sf (lo hi:Int) (p:Pl)
 |ix (p:Pl)
 |bI (p:Pl)
 |ld (cs:List AV) (p:Pl)
 |Qb (b:Bool) (p q:Pl)
 |bJ (cs:List AV) (p:Pl)
 |dj (o:aE) (p:Pl)
 |sh (p:Pl)
 |rm (p:Pl)
 |lk (m:List (Int×Int)) (p:Pl)
 |mu (m:List (Int×Int)) (p:Pl)
 |ls (l:List (Nat×AV)) (o:List (Nat×Option aE)) (nx:Nat) (p:Pl)
 |rn (l0:List (Nat×AV)) (o0:List (Nat×Option aE)) (l:List (Nat×AV)) (o:List (Nat×Option aE)) (bp nx:Nat) (p:Pl)
 |bk (l:List (Nat×AV)) (o:List (Nat×Option aE)) (nx:Nat) (p:Pl)
 |cy (v:AV) (s2:AS) (p:Pl)
 |il (p:Pl)
 |rt (k:Nat) (p:Pl)
 |cut (p:Pl)
inductive Dx where
 |fr (f nt:Nat) (K:List Item) (t:Tr AV) (s:AS)
 |rg (f nt:Nat) (K:List Item) (ops:Array Oper) (D:Option (List cT)) (i:Nat) (t:Tr AV) (s:AS)
structure Env where
 P:Program
 sp:Sp
 F:Nat->Option (List AV)
 lz:FuncId->Option (List AV->Option AV)
 ck:AS->Bool
 cs:AS->AS
 lo:Nat
 fg:Bool
def mX(nx:Nat)(l:List (Nat×AV))(o:List (Nat×Option aE)):Prop:=∀r:Nat->Nat,(∀k,k<nx->r k=k)->(∀k,top<=k->r k=k)->(∀p∈l,aJ r p.2 p.2)/\(∀p∈o,∀x,p.2=some x->c8 r x x)
def fC(F:Nat->Option (List AV))(lo bp:Nat)(l0:List (Nat×AV))(o0:List (Nat×Option aE))(l:List (Nat×AV))(o:List (Nat×Option aE))(nx:Nat):Prop:=
  ∃ (fz:iW) (r:Nat->Nat),(∀k,k<lo->r k=k)/\(∀k,nx<=k->k<top->bp<=r k/\r k<top)/\(∀k,top<=k->r k=k)/\nx<=top/\(∀p∈l,p.1<top/\∃x,(p.1,x)∈l0/\jh fz r x p.2)/\
    (∀p∈o,p.1<top/\∀y,p.2=some y->r p.1<top/\y.plain=true/\∃x,(r p.1,some x)∈o0/\(y.du=false->x.du=false)/\iH fz r x y)/\
    (∀p∈o,∀q∈o,p.2≠none->q.2≠none->r p.1=r q.1->p.1=q.1)/\
    (∀p∈fz,p.1<top/\F p.2.1=some p.2.2/\∃N t z,(p.1,some (.cells N t z))∈o0/\∀i x,p.2.2[i]? =some x->i<N/\cellAt t z i=some x/\x.ct=true/\x.gN=true)/\
    (∀p∈fz,∀q∈o,q.2≠none->r q.1≠p.1)
structure Env.Ok (E:Env):Prop where
 lz:∀g val args v s n,E.lz g=some val->val args=some v->E.ck s=true->bV E.P E.sp E.F (n+1) (.fn g) args s= .ok v (E.cs s)
def wo(o:Option α)(k:α->Prop):Prop:= @Option.rec α (fun _=>Prop) False k o
def wr(r:R α)(k:α->AS->Prop):Prop:= @R.rec α (fun _=>Prop) False k r
def wb(b:Bool)(k:Prop):Prop:= @Bool.rec (fun _=>Prop) False k b
def Kt:=AV->AS->Pl->Prop
def bz:=AF->AS->Pl->Prop
def Rec:=Nat->Dx->Pl->List ResultVar->Kt->bz->Prop
def vZ(op:Op):Option (BinOp×TypeId×Operand×Operand×TypeId):=match op with
 | .binOp o ty x y yt=>some (o,ty,x,y,yt)
 |_=>none
def callParts(op:Op):Option (Operand×Array Operand×Array TypeId):=match op with
 | .call ⟨.value fo,xs,ts⟩=>some (fo,xs,ts)
 |_=>none
def G6(v:AV):Option FuncId:=match v with
 | .func (.func g) [] []=>some g
 |_=>none
def asInt(v:AV):Option (IntKind×Int):=match v with
 | .int k n=>some (k,n)
 |_=>none
def asAgg(v:AV):Option (List AV):=match v with
 | .agg l=>some l
 |_=>none
def asSlice(v:AV):Option (Option (Nat×Nat)×Nat×kT):=match v with
 | .slice a n c=>some (a,n,c)
 |_=>none
def Gu(x:cr):Option (Nat×Nat×List Item×Tr AV):=match x with
 | .go ⟨f,t,nt,K,[],none⟩=>some (f,nt,K,t)
 |_=>none
def Gv(x:cr):Option (AF×Option Code):=match x with
 | .leave fr j=>some (fr,j)
 |_=>none
def FF(K:List Item):Option (Array Oper×Bool×List Item):=match K with
 | .code (.region _ ops d)::K=>some (ops,d,K)
 |_=>none
def G7(o:BinOp)(a b:Int):Option Prop:=match o with
 | .lss=>some (a<b)
 | .leq=>some (a<=b)
 | .gtr=>some (a>b)
 | .geq=>some (a>=b)
 | .eql=>some (a=b)
 | .neq=>some (a≠b)
 |_=>none
def ff(D:Option (List cT))(s:AS):AS:=match D with
 |none=>s
 |some _=>BU s
def su(D:Option (List cT))(s s1:AS):AS:=match D with
 |none=>s1
 |some _=>qQ s s1
def CI(D:Option (List cT))(i:Nat)(s s1:AS):Option (List cT):=match D with
 |none=>none
 |some acc=>some (acc++[zx i s s1])
def NI(d:Bool):Option (List cT):=match d with
 |true=>some []
 |false=>none
def G8(P:Program)(call:bf)(nt:Nat)(ops:Array Oper)(D:Option (List cT))(i n:Nat)(t:Tr AV):M (Tr AV×Option (List cT)):=match D with
  | none=>fun s=>match jg P call nt ops i n t s with
    | .ok t s=>.ok (t,none) s
    | .bad=>.bad
  | some acc=>fun s=>match lO P call nt ops i n t s with
    | .ok x s=>.ok (x.1,some (acc++x.2)) s
    | .bad=>.bad
def NJ(ops:Array Oper)(D:Option (List cT)):Bool:=match D with
 |none=>true
 |some acc=>mO (Region.before ops) acc acc
def B9(n:Nat):Option Nat:=match n with
 |0=>none
 |n+1=>some n
def tT(t:Tr AV)(op:Op):Option (FuncId×List AV):=match callParts op with
  |none=>none
  | some x=>match aR t x.1 with
    |none=>none
    | some fv=>match G6 fv with
      |none=>none
      | some g=>match iv (aR t) x.2.1.toList with
        |none=>none
        |some args=>some (g,args)
def FG(t:Tr AV)(op:Op):Option (Nat×List AV):=match callParts op with
  |none=>none
  | some x=>match aR t x.1 with
    | some (.yield l)=>(match iv (aR t) x.2.1.toList with
      |none=>none
      |some args=>some (l,args))
    |_=>none
def Bq(op:Op):Option (TypeId×Operand×Operand):=match op with
 | .indexAddr ty x y=>some (ty,x,y)
 |_=>none
def yl(op:Op):Option (TypeId×Operand):=match op with
 | .load ty a=>some (ty,a)
 |_=>none
def Es(op:Op):Option (TypeId×Operand×Operand):=match op with
 | .store ty a x=>some (ty,a,x)
 |_=>none
def Br(op:Op):Option (Operand×Operand×Array TypeId):=match op with
  | .call ⟨.builtin .append,xs,ts⟩=>match xs.toList with
    |[x,y]=>some (x,y,ts)
    |_=>none
  |_=>none
def G9(v:AV):Option (Nat×Nat×Nat×Nat):=match v with
 | .slice (some (n,0)) len (.aX m k)=>some (n,len,m,k)
 |_=>none
def F6(v:AV):Option Nat:=match v with
 | .slice (some (m,0)) 1 (.known 1)=>some m
 |_=>none
def Bs(P:Program)(ts:Array TypeId):Option (Nat×Nat):=match ts[0]? with
  | some ty=>match P.underlying ty with
    | some (.slice e)=>match P.info? e with
      | some i=>match qv i&&(nG P ts[1]? && !(Nat.beq i.bytes 0)) with
        |true=>some (i.size,i.bytes)
        |false=>none
      |none=>none
    |_=>none
  |none=>none
def za(v:AV):Option (Nat×Nat×Nat):=match v with
 | .ae n o k=>some (n,o,k)
 |_=>none
def F7(v:AV):Option (Nat×Nat):=match v with
 | .kc n o=>some (n,o)
 |_=>none
def qJ(P:Program)(ty:TypeId):Option Nat:=match P.underlying ty with
 |some (.slice e)=>dG P e
 |_=>none
def cellsOf(o:Option aE)(off k:Nat):Option (List AV):=match o with
 |some (.cells m t z)=>(match Nat.ble (off+k) m with|true=>jJ t z k off|false=>none)
 |_=>none
def zb(o:Option aE)(off:Nat)(l:List AV):Option aE:=match o with
 |some (.cells m t z)=>(match (Nat.ble (off+l.length) m&&(Nat.ble m top&&l.all AV.ct)) with|true=>some (.cells m (Tr.fill l off t) z)|false=>none)
 |_=>none
def bM(F:Nat->Option (List AV))(n off k:Nat):Option (List AV):=match F n with
 |some l=>(match Nat.ble (off+k) l.length with|true=>some ((l.drop off).take k)|false=>none)
 |none=>none
def uc(k:Nat):Bool:=Nat.blt 0 k
def zC(ag:Bool)(cs:List AV):Option AV:=match ag with
 |true=>some (.agg cs)
 |false=>one cs
def yU(P:Program)(ty:TypeId)(ag:Bool):Option Nat:=match ag with
 |true=>dG P ty
 |false=>some 1
def F8(o:Option aE):Bool:=match o with
 |none=>true
 |some o=>o.plain
def CJ(φ:Prop)(E:Env)(n:Nat)(g:FuncId)(args:List AV)(s:AS)(v1:AV)(L1:List (Nat×Option aE))(v2:AV)(L2:List (Nat×Option aE))(ep:Nat)(R W:List Nat):Prop:=
 ∃rd wr,(∀k∈rd,k∈R)/\(∀k∈wr,k∈W)/\((φ/\bV E.P E.sp E.F n (.fn g) args s= .ok v1 ⟨pd s.h L1,ep,s.mark,rd,wr⟩)\/bV E.P E.sp E.F n (.fn g) args s= .ok v2 ⟨pd s.h L2,ep,s.mark,rd,wr⟩)
def Ha(dr:Bool)(s:AS)(h:Tr aE)(R W:List Nat):AS:=match dr with
 |true=>⟨h,s.nx+1,s.mark,R,W⟩
 |false=>⟨h,s.nx+1,s.mark,s.rd,s.wr⟩
def Hb(v:AV):Option (Nat×Nat×kT):=match v with
 | .slice (some (n,0)) len cap=>some (n,len,cap)
 |_=>none
def Et(op:Op):Option (TypeId×Operand×Option Operand×Option Operand):=match op with
 | .slice ty x lo hi none=>some (ty,x,lo,hi)
 |_=>none
def wK(t:Tr AV)(o:Option Operand)(d:Int):Option Int:=match o with
  |none=>some d
  | some y=>match aR t y with
    |some (.int _ n)=>some n
    |_=>none
def EM(op:Op):Option (TypeId×Operand×Operand):=match op with
 | .lookup ty x i false=>some (ty,x,i)
 |_=>none
def E7(op:Op):Option (TypeId×Operand×Operand×Operand):=match op with
 | .mapUpdate ty x i y=>some (ty,x,i,y)
 |_=>none
def Ca(v:AV):Option Nat:=match v with
 | .map (some n)=>some n
 |_=>none
def BV(P:Program)(ty:TypeId):Option (TypeId×TypeId):=match P.underlying ty with
 |some (.map k e)=>some (k,e)
 |_=>none
def zc(k:IntKind):Bool:=match k with
 | .i64=>true
 |_=>false
def Hd(v:Option AV):Bool:=match v with
 |some (.int .i64 (.ofNat 0))=>true
 |_=>false
def Qc(E:Env)(dr:Bool)(ih:Rec)(n:Nat)(nx:AV->AS->Pl->Prop)(s:AS)(t:Tr AV)(op:Op)(p:Pl):Prop:=match p with
  | .fk p q=>wo (vZ op) fun x=>wo (aR t x.2.2.1) fun a=>wo (aR t x.2.2.2.1) fun b=>wo (asInt a) fun a=>wo (asInt b) fun b=>wb (decide (a.1=b.1)) (wo (G7 x.1 a.2 b.2) fun c=>(c->nx (.bool true) s p)/\(¬c->nx (.bool false) s q))
  | .vl v p=>wr ((cW E.P op).val (bV E.P E.sp E.F n) t s) fun v' s1=>v'=v/\nx v s1 p
  | .kn v p=>wo (tT t op) fun x=>wo (B9 n) fun _=>wo (E.lz x.1) fun val=>wb (E.ck s) (val x.2=some v/\nx v (E.cs s) p)
  | .kp c d p q=>wo (tT t op) fun x=>wo (B9 n) fun _=>wo (E.lz x.1) fun val=>wb (E.ck s) (val x.2=some (.bool (@decide c d))/\(c->nx (.bool true) (E.cs s) p)/\(¬c->nx (.bool false) (E.cs s) q))
  | .ef p q=>wo (vZ op) fun x=>wo (aR t x.2.2.1) fun a=>wo (aR t x.2.2.2.1) fun b=>wo (asAgg a) fun xs=>wo (asAgg b) fun ys=>wb (tC E.P x.1 x.2.1 x.2.2.1 x.2.2.2.1 (.agg xs) (.agg ys)) (wb (yq E.P x.2.1) (wb (!E.P.stoodInHeld x.2.1) (wo (tG E.P xs ys (fieldsOf E.P x.2.1)) fun l=>match x.1 with
    | .eql=>(allEq l=true->nx (.bool true) s p)/\(allEq l=false->nx (.bool false) s q)
    | .neq=>(allEq l=true->nx (.bool false) s p)/\(allEq l=false->nx (.bool true) s q)
    |_=>False)))
  | .c2 φ v1 L1 v2 L2 ep R W p q=>wb dr (wo (tT t op) fun x=>CJ φ E n x.1 x.2 s v1 L1 v2 L2 ep R W/\(φ->nx v1 ⟨pd s.h L1,ep,s.mark,R,W⟩ p)/\nx v2 ⟨pd s.h L2,ep,s.mark,R,W⟩ q)
  | .ap _ enc l c p=>wo (Br op) fun x=>wo (aR t x.1) fun a=>wo (G9 a) fun a=>wo (aR t x.2.1) fun b=>wo (F6 b) fun m=>wo (Bs E.P x.2.2) fun i=>wb (Nat.beq a.2.2.2 i.1&&(uc i.1&&(Nat.blt a.1 s.nx&&(Nat.blt m s.nx&&(Nat.blt s.nx top&&(dr||Nat.beq s.mark 0))))))
      (a.2.1=l.length/\a.2.2.1=l.length/\s.h.get a.1=some (aD enc l)/\s.h.get m=some (.cells (enc c).length (Tr.fill (enc c) 0 .nil) [])/\(∀x,(enc x).length=i.1/\(enc x).all AV.ct=true)/\2*(l.length+1)*i.2+4096*i.2<=room/\(l.length+1)*i.1<=top/\
        nx (.slice (some (s.nx,0)) (l++[c]).length (.aX (l++[c]).length i.1)) (Ha dr s ((s.h.put a.1 none).put s.nx (some (aD enc (l++[c])))) [a.1,m] [a.1]) p)
  | .ix p=>wo (Bq op) fun x=>wo (aR t x.2.1) fun a=>wo (asSlice a) fun a=>wo a.1 fun ad=>wo (aR t x.2.2) fun z=>wo (asInt z) fun z=>wo (qJ E.P x.1) fun K=>wb (Nat.beq ad.2 0) (0<=z.2/\z.2<(Int.ofNat a.2.1)/\nx (.ptr (some (ad.1,z.2.toNat*K))) s p)
  | .bI p=>wo (Bq op) fun x=>wo (aR t x.2.1) fun a=>wo (za a) fun a=>wo (aR t x.2.2) fun z=>wo (asInt z) fun z=>wo (qJ E.P x.1) fun K=>0<=z.2/\z.2<(Int.ofNat a.2.2)/\nx (.kc a.1 (a.2.1+z.2.toNat*K)) s p
  | .ld cs p=>wo (yl op) fun x=>wo (aR t x.2) fun a=>wo (addrOf a) fun a=>wo (mU E.P x.1) fun ag=>wo (yU E.P x.1 ag) fun k=>wb (uc k) (wb (Nat.blt a.1 s.nx) (wo (zC ag cs) fun v=>cellsOf (s.h.get a.1) a.2 k=some cs/\nx v (dq a.1 s) p))
  | .Qb b p q=>wo (yl op) fun x=>wo (aR t x.2) fun a=>wo (addrOf a) fun a=>wo (mU E.P x.1) fun ag=>wb (!ag) (wb (Nat.blt a.1 s.nx) (cellsOf (s.h.get a.1) a.2 1=some [.bool b]/\(b=true->nx (.bool true) (dq a.1 s) p)/\(b=false->nx (.bool false) (dq a.1 s) q)))
  | .bJ cs p=>wo (yl op) fun x=>wo (aR t x.2) fun a=>wo (F7 a) fun a=>wo (mU E.P x.1) fun ag=>wo (dG E.P x.1) fun _=>wo (yU E.P x.1 ag) fun k=>wo (zC ag cs) fun v=>top<=a.1/\bM E.F a.1 a.2 k=some cs/\nx v s p
  | .dj o p=>wo (Es op) fun x=>wo (aR t x.2.1) fun a=>wo (addrOf a) fun a=>wo (aR t x.2.2) fun v=>wo (dG E.P x.1) fun k=>wb (Nat.beq v.cells.length k) (wb (uc k) (wb (Nat.blt a.1 s.nx) (wb (Nat.blt a.1 top) (zb (s.h.get a.1) a.2 v.cells=some o/\nx lH (og a.1 (some o) (dq a.1 s)) p))))
  | .sh p=>wo (vZ op) fun x=>wb (nD x.1) (wo (aR t x.2.2.1) fun a=>wo (aR t x.2.2.2.1) fun b=>wo (asInt a) fun a=>wo (asInt b) fun b=>0<=b.2/\nx (.int a.1 (aq x.1 a.1 a.2 b.2)) s p)
  | .rm p=>wo (vZ op) fun x=>wb (match x.1 with| .rem=>true|_=>false) (wo (aR t x.2.2.1) fun a=>wo (aR t x.2.2.2.1) fun b=>wo (asInt a) fun a=>wo (asInt b) fun b=>wb (decide (a.1=b.1)) (b.2≠0/\nx (.int a.1 (Int.tmod a.2 b.2)) s p))
  | .al _ enc l L p=>wo (Br op) fun x=>wo (aR t x.1) fun a=>wo (Hb a) fun a=>wo (aR t x.2.1) fun b=>wo (za b) fun b=>wo (Bs E.P x.2.2) fun i=>wb (Gg i.1 a.2.1 a.2.2&&(Nat.blt a.1 s.nx&&(Nat.blt s.nx top&&(dr||Nat.beq s.mark 0))))
      (a.2.1=l.length/\s.h.get a.1=some (aD enc l)/\top<=b.1/\bM E.F b.1 b.2.1 (b.2.2*i.1)=some (L.map enc).flatten/\b.2.2=L.length/\(∀x,(enc x).length=i.1/\(enc x).all AV.ct=true)/\2*(l.length+L.length)*i.2+4096*i.2<=room/\(l.length+L.length)*i.1<=top/\
        nx (.slice (some (s.nx,0)) (l++L).length (.aX (l++L).length i.1)) (Ha dr s ((s.h.put a.1 none).put s.nx (some (aD enc (l++L)))) [a.1] [a.1]) p)
  | .sf lo hi p=>wo (Et op) fun x=>wo (aR t x.2.1) fun a=>wo (za a) fun a=>wo (qJ E.P x.1) fun K=>wo (wK t x.2.2.1 0) fun mr=>wo (wK t x.2.2.2 (Int.ofNat a.2.2)) fun iY=>mr=lo/\iY=hi/\top<=a.1/\0<=lo/\lo<=hi/\hi<=(Int.ofNat a.2.2)/\nx (.ae a.1 (a.2.1+lo.toNat*K) (hi.toNat - lo.toNat)) s p
  | .lk m p=>wo (EM op) fun x=>wo (aR t x.2.1) fun a=>wo (Ca a) fun n=>wo (aR t x.2.2) fun i=>wo (asInt i) fun i=>wo (BV E.P x.1) fun y=>wb (lK E.P 10000 y.1 (.int .i64 i.2)&&(plainKey E.P y.1 (.int .i64 i.2)&&(zc i.1&&(Hd (ma E.P y.2)&&Nat.blt n s.nx)))) (s.h.get n=some (eL m)/\nx (.int .i64 (getM m i.2)) (dq n s) p)
  | .mu m p=>wo (E7 op) fun x=>wo (aR t x.2.1) fun a=>wo (Ca a) fun n=>wo (aR t x.2.2.1) fun i=>wo (asInt i) fun i=>wo (aR t x.2.2.2) fun v=>wo (asInt v) fun v=>wo (BV E.P x.1) fun y=>wb (lK E.P 10000 y.1 (.int .i64 i.2)&&(plainKey E.P y.1 (.int .i64 i.2)&&(zc i.1&&(zc v.1&&(Nat.blt n s.nx&&Nat.blt n top))))) (s.h.get n=some (eL m)/\nx (.tuple []) (og n (some (eL (fW m i.2 v.2))) (dq n s)) p)
  | .cy v s2 p=>wo (FG t op) fun x=>bV E.P E.sp E.F n (.round x.1) x.2 s= .ok v s2/\nx v s2 p
  | .il p=>wo (tT t op) fun x=>wo (B9 n) fun m=>match E.sp x.1 with
    |some _=>False
    |none=>wo (E.P.funcs[x.1]?) fun fn=>wo fn.body fun body=>wb (!(fn.name == "runtime.NumGoroutine")) (wb (Nat.ble (max fn.ntmps x.2.length) top) (ih m (.fr x.1 (max fn.ntmps x.2.length) [.code body] (iD x.2) s) p fn.results.toList nx (fun _ _ _=>False)))
  |_=>False
def IJ(E:Env)(ih:Rec)(n:Nat)(c:Dx)(p:Pl)(rs:List ResultVar)(k:Kt)(C:bz):Prop:=match c with
  | .fr f nt K t s=>match p with
    | .st j p=>wr (cY E.P (bV E.P E.sp E.F n) j ⟨f,t,nt,K,[],none⟩ s) fun x s1=>wo (Gu x) fun y=>ih n (.fr y.1 y.2.1 y.2.2.1 y.2.2.2 s1) p rs k C
    | .rg p=>wo (FF K) fun x=>ih n (.rg f nt x.2.2 x.1 (NI x.2.1) 0 t s) p rs k C
    | .rt j p=>wr (cY E.P (bV E.P E.sp E.F n) j ⟨f,t,nt,K,[],none⟩ s) fun x s1=>wo (Gv x) fun y=>wr (finish E.P rs y.1 y.2 s1) fun v s2=>k v s2 p
    | .cut p=>C ⟨f,t,nt,K,[],none⟩ s p
    | .ls l o nx p=>wb (E.fg&&(mi top l&&(mi top o&&((Nat.ble s.nx nx&&Nat.ble nx top)&&o.all fun q=>F8 q.2)))) (l.map (fun q=>t.get q.1)=l.map (fun q=>some q.2)/\o.map (fun q=>s.h.get q.1)=o.map (fun q=>q.2)/\C ⟨f,eS l,nt,K,[],none⟩ (aM o nx) p)
    | .rn l0 o0 l o bp nx p=>wb (E.fg&&Nat.beq s.nx bp) (l0.map (fun q=>t.get q.1)=l0.map (fun q=>some q.2)/\o0.map (fun q=>s.h.get q.1)=o0.map (fun q=>q.2)/\fC E.F E.lo bp l0 o0 l o nx/\C ⟨f,eS l,nt,K,[],none⟩ (aM o nx) p)
    | .bk l o nx p=>wb (E.fg&&(mi top l&&(mi nx o&&((Nat.ble nx s.nx&&(Nat.blt s.nx top&&Nat.ble E.lo nx))&&o.all fun q=>F8 q.2)))) (l.map (fun q=>t.get q.1)=l.map (fun q=>some q.2)/\o.map (fun q=>s.h.get q.1)=o.map (fun q=>q.2)/\mX nx l o/\C ⟨f,eS l,nt,K,[],none⟩ (aM o nx) p)
    |_=>False
  | .rg f nt K ops D i t s=>match p with
    | .go m p=>wb (Nat.ble (i+m) ops.size) (wr (G8 E.P (bV E.P E.sp E.F n) nt ops D i m t s) fun x s1=>ih n (.rg f nt K ops x.2 (i+m) x.1 s1) p rs k C)
    | .en p=>wb (Nat.ble ops.size i) (wb (NJ ops D) (ih n (.fr f nt K t s) p rs k C))
    |p=>wo (p6 ops i) fun o=>wb (y8 ops o.2.2 t) (Qc E (D.isSome&&Nat.beq s.mark 0) ih n (fun v s1 p=>wo (gW nt t o.2.1 v) fun t1=>ih n (.rg f nt K ops (CI D i (s) s1) (i+1) t1 (su D s s1)) p rs k C) (ff D s) t o.1 p)
def wp(E:Env)(fuel:Nat):Rec:= @Nat.rec (fun _=>Rec) (fun _ _ _ _ _ _=>False) (fun _ ih=>IJ E ih) fuel
def iX(P:Program)(call:bf)(G:AF->AS->Prop)(f nt:Nat)(K:List Item)(ops:Array Oper)(D:Option (List cT))(i:Nat)(t:Tr AV)(s:AS):Prop:=match D with
 |none=>gi P call G f nt K ops i t s
 |some acc=>gS P call G f nt K ops acc i t s
def Gof(P:Program)(call:bf)(G:AF->AS->Prop)(c:Dx):Prop:=match c with
 | .fr f nt K t s=>G ⟨f,t,nt,K,[],none⟩ s
 | .rg f nt K ops D i t s=>iX P call G f nt K ops D i t s
end
theorem bD{o:Option α}{k:α->Prop}(h:wo o k):∃x,o=some x/\k x:=by
 cases o with
 |none=>exact h.elim
 |some x=>exact⟨x,rfl,h⟩
theorem yV{r:R α}{k:α->AS->Prop}(h:wr r k):∃x s,r= .ok x s/\k x s:=by
 cases r with
 |bad=>exact h.elim
 |ok x s=>exact⟨x,s,rfl,h⟩
theorem fU{b:Bool}{k:Prop}(h:wb b k):b=true/\k:=by
 cases b with
 |false=>exact h.elim
 |true=>exact⟨rfl,h⟩
theorem TM{g:FuncId}(h:G6 v=some g):v= .func (.func g) [] []:=by
 unfold G6 at h;split at h
 ·injection h with h;subst h;rfl
 ·cases h
theorem oH{x:IntKind×Int}(h:asInt v=some x):v= .int x.1 x.2:=by
 unfold asInt at h;split at h
 ·injection h with h;subst h;rfl
 ·cases h
theorem KU{x:List AV}(h:asAgg v=some x):v= .agg x:=by
 unfold asAgg at h;split at h
 ·injection h with h;subst h;rfl
 ·cases h
theorem Rs{x:Option (Nat×Nat)×Nat×kT}(h:asSlice v=some x):v= .slice x.1 x.2.1 x.2.2:=by
 unfold asSlice at h;split at h
 ·injection h with h;subst h;rfl
 ·cases h
theorem SJ{x:cr}{y:Nat×Nat×List Item×Tr AV}(h:Gu x=some y):x= .go ⟨y.1,y.2.2.2,y.2.1,y.2.2.1,[],none⟩:=by
 unfold Gu at h;split at h
 ·injection h with h;subst h;rfl
 ·cases h
theorem SK{x:cr}{y:AF×Option Code}(h:Gv x=some y):x= .leave y.1 y.2:=by
 unfold Gv at h;split at h
 ·injection h with h;subst h;rfl
 ·cases h
theorem Rt{K:List Item}{y:Array Oper×Bool×List Item}(h:FF K=some y):∃id,K= .code (.region id y.1 y.2.1)::y.2.2:=by
 unfold FF at h;split at h
 ·injection h with h;subst h;exact⟨_,rfl⟩
 ·cases h
theorem EN(h:B9 n=some m):n=m+1:=by
 cases n with
 |zero=>cases h
 |succ n=>injection h with h;subst h;rfl
theorem AZ{op:Op}{x:BinOp×TypeId×Operand×Operand×TypeId}(h:vZ op=some x):op= .binOp x.1 x.2.1 x.2.2.1 x.2.2.2.1 x.2.2.2.2:=by
 unfold vZ at h;split at h
 ·injection h with h;subst h;rfl
 ·cases h
theorem Kj{t:Tr AV}{op:Op}{x:FuncId×List AV}(h:tT t op=some x):∃fo xs ts,op= .call ⟨.value fo,xs,ts⟩/\aR t fo=some (.func (.func x.1) [] [])/\iv (aR t) xs.toList=some x.2:=by
  unfold tT at h
  split at h
  · cases h
  · rename_i y hy
    have dV:op= .call ⟨.value y.1,y.2.1,y.2.2⟩:=by
      unfold callParts at hy;split at hy
      · injection hy with hy;subst hy;rfl
      · cases hy
    split at h
    · cases h
    · rename_i fv hf
      split at h
      · cases h
      · rename_i g hg
        split at h
        · cases h
        · rename_i args ha
          injection h with h;subst h
          exact⟨_,_,_,dV,by rw[hf,TM hg],ha⟩
section
variable {P:Program} {s s1:AS} {call:bf} {t t1:Tr AV} {ops:Array Oper} {f nt i:Nat} {K:List Item} {G:AF->AS->Prop} {D:Option (List cT)}
theorem Vm{o:BinOp}(h:G7 o a b=some c):∃r,G1 o a b=some r/\(r=true↔c):=by
 unfold G7 at h
 split at h<;>first|(injection h with h;subst h)|cases h
 ·exact⟨_,rfl,by rw[decide_eq_true_iff]⟩
 ·exact⟨_,rfl,by rw[decide_eq_true_iff]⟩
 ·exact⟨_,rfl,by rw[decide_eq_true_iff]⟩
 ·exact⟨_,rfl,by rw[decide_eq_true_iff]⟩
 ·exact⟨_,rfl,by simp⟩
 ·exact⟨_,rfl,by simp⟩
theorem iX.op{op:Op}{d:Option Tmp}{g:Option (Nat×Bool)}(ho:p6 ops i=some (op,d,g))(hw:y8 ops g t=true)(h:(cW P op).val call t (ff D s)= .ok v s1)(hp:gW nt t d v=some t1)(H:iX P call G f nt K ops (CI D i s s1) (i+1) t1 (su D s s1)):iX P call G f nt K ops D i t s:=by
 cases D with
 |none=>exact gi.step (FA ho) (rZ ho hw h hp) H
 |some acc=>exact gS.step (FA ho) (Vk ho hw h hp) H
theorem iX.go{x:Tr AV×Option (List cT)}(hn:Nat.ble (i+n) ops.size=true)(h:G8 P call nt ops D i n t s= .ok x s1)(H:iX P call G f nt K ops x.2 (i+n) x.1 s1):iX P call G f nt K ops D i t s:=by
  have hle:=bH.1 hn
  unfold G8 at h
  cases D with
  | none=>
    simp only at h
    split at h
    · rename_i t2 s2 e
      injection h with h1 h2;subst h1;subst h2
      obtain⟨t3,s3,q1,q2⟩:=H
      refine⟨t3,s3,?_,q2⟩
      rw[show ops.size - i=n+(ops.size - (i+n)) by omega]
      exact yd e q1
    · cases h
  | some acc=>
    simp only at h
    split at h
    · rename_i y s2 e
      injection h with h1 h2;subst h1;subst h2
      obtain⟨t3,ms,s3,q1,q2,q3⟩:=H
      refine⟨t3,_,s3,?_,by rw[←List.append_assoc];exact q2,q3⟩
      rw[show ops.size - i=n+(ops.size - (i+n)) by omega]
      exact Bo rfl aF e q1
    · cases h
theorem iX.done(h:Nat.ble ops.size i=true)(ho:NJ ops D=true)(H:G ⟨f,t,nt,K,[],none⟩ s):iX P call G f nt K ops D i t s:=by
 cases D with
 |none=>exact gi.done h H
 |some acc=>exact gS.done (and_true.2 ⟨h,ho⟩) H
theorem iX.He(hG:Chunk P call G){id:Nat}{d:Bool}(H:iX P call G f nt K ops (NI d) 0 t s):G ⟨f,t,nt,.code (.region id ops d)::K,[],none⟩ s:=by
 cases d with
 |false=>exact Chunk.sO hG (c:=.region id ops false) rfl H
 |true=>exact Chunk.aat hG (c:=.region id ops true) rfl H
theorem RY{op:Op}{x:Nat×List AV}(h:FG t op=some x)(hv:call (.round x.1) x.2 s= .ok v s1):(cW P op).val call t s= .ok v s1:=by
  unfold FG at h
  split at h
  · cases h
  · rename_i y e
    split at h
    · rename_i l e2
      split at h
      · cases h
      · rename_i args e3
        injection h with h;subst h
        unfold callParts at e
        split at e
        · rename_i fo xs ts
          injection e with e;subst e
          show mN fo xs.toList call t s=_
          unfold mN
          simp only at e2 e3
          rw[e3,dk,e2,dk]
          show ju call (.yield l) args s=_
          exact hv
        · cases e
    · cases h
theorem Bc{op:Op}{x:FuncId×List AV}(h:tT t op=some x)(hv:call (.fn x.1) x.2 s= .ok v s1):(cW P op).val call t s= .ok v s1:=by
 obtain⟨fo,xs,ts,rfl,h1,h2⟩:=Kj h
 exact TL (by rw[h1,h2]) hv
end
theorem QY{op:Op}(h:EM op=some x):op= .lookup x.1 x.2.1 x.2.2 false:=by
 unfold EM at h;split at h
 ·injection h with h;subst h;rfl
 ·cases h
theorem Rb{op:Op}{x:TypeId×Operand×Operand×Operand}(h:E7 op=some x):op= .mapUpdate x.1 x.2.1 x.2.2.1 x.2.2.2:=by
 unfold E7 at h;split at h
 ·injection h with h;subst h;rfl
 ·cases h
theorem KV(h:Ca v=some n):v= .map (some n):=by
 unfold Ca at h;split at h
 ·injection h with h;subst h;rfl
 ·cases h
theorem Kk{P:Program}{y:TypeId×TypeId}(h:BV P ty=some y):P.underlying ty=some (.map y.1 y.2):=by
 unfold BV at h;split at h
 ·rename_i e;injection h with h;subst h;exact e
 ·cases h
theorem EO{k:IntKind}(h:zc k=true):k= .i64:=by
 unfold zc at h;split at h
 ·rfl
 ·cases h
theorem TN{v:Option AV}(h:Hd v=true):v=some (.int .i64 0):=by
 unfold Hd at h;split at h
 ·rfl
 ·cases h
theorem JF{op:Op}(h:Bq op=some x):op= .indexAddr x.1 x.2.1 x.2.2:=by
 unfold Bq at h;split at h
 ·injection h with h;subst h;rfl
 ·cases h
theorem JG{op:Op}{x:Operand×Operand×Array TypeId}(h:Br op=some x):op= .call ⟨.builtin .append, #[x.1,x.2.1],x.2.2⟩:=by
 unfold Br at h
 split at h
 ·rename_i xs ts
  split at h
  ·rename_i a b e
   injection h with h;subst h
   have:xs= #[a,b]:=Array.ext' e
   rw[this]
  ·cases h
 ·cases h
theorem TO{x:Nat×Nat×Nat×Nat}(h:G9 v=some x):v= .slice (some (x.1,0)) x.2.1 (.aX x.2.2.1 x.2.2.2):=by
 unfold G9 at h;split at h
 ·injection h with h;subst h;rfl
 ·cases h
theorem RZ(h:F6 v=some m):v= .slice (some (m,0)) 1 (.known 1):=by
 unfold F6 at h;split at h
 ·injection h with h;subst h;rfl
 ·cases h
theorem JH{P:Program}{ts:Array TypeId}{x:Nat×Nat}(h:Bs P ts=some x):∃ty e,ts[0]? =some ty/\P.underlying ty=some (.slice e)/\(P.info? e).map (fun i=>(i.size,i.bytes,qv i))=some (x.1,x.2,true)/\nG P ts[1]? =true/\Nat.beq x.2 0=false:=by
  unfold Bs at h
  split at h
  · rename_i ty h1
    split at h
    · rename_i e h2
      split at h
      · rename_i i h3
        split at h
        · rename_i hb
          injection h with h;subst h
          obtain⟨b1,b2⟩:=and_true.1 hb
          obtain⟨b2,b3⟩:=and_true.1 b2
          refine⟨ty,e,h1,h2,by rw[h3];simp only[Option.map_some,b1],b2,by simpa using b3⟩
        · cases h
      · cases h
    · cases h
  · cases h
theorem AW{op:Op}{x:TypeId×Operand}(h:yl op=some x):op= .load x.1 x.2:=by
 unfold yl at h;split at h
 ·injection h with h;subst h;rfl
 ·cases h
theorem QN{op:Op}(h:Es op=some x):op= .store x.1 x.2.1 x.2.2:=by
 unfold Es at h;split at h
 ·injection h with h;subst h;rfl
 ·cases h
theorem EP{x:Nat×Nat×Nat}(h:za v=some x):v= .ae x.1 x.2.1 x.2.2:=by
 unfold za at h;split at h
 ·injection h with h;subst h;rfl
 ·cases h
theorem R0{x:Nat×Nat}(h:F7 v=some x):v= .kc x.1 x.2:=by
 unfold F7 at h;split at h
 ·injection h with h;subst h;rfl
 ·cases h
theorem Eu{x:Nat×Nat}(h:addrOf v=some x):v= .ptr (some x):=by
 unfold addrOf at h;split at h
 ·injection h with h;subst h;rfl
 ·cases h
theorem KW{z:Int}{len:Nat}(h1:0<=z)(h2:z<Int.ofNat len):within z len=some z.toNat:=by
 obtain⟨m,rfl⟩:=Int.eq_ofNat_of_zero_le h1
 show within (Int.ofNat m) len=some m
 have h2:(m:Int)<(len:Int):=h2
 unfold within
 have:Nat.blt m len=true:=by rw[blt_eq];omega
 simp only[this]
section
variable {P:Program} {s s1:AS} {call:bf} {t:Tr AV}
theorem Y1{len K:Nat}{cap:kT}{z:Int}(hx:aR t x.2.1=some (.slice (some (n,0)) len cap))(hz:aR t x.2.2=some (.int ik z))(hk:qJ P x.1=some K)(h1:0<=z)(h2:z<Int.ofNat len):(cW P (.indexAddr x.1 x.2.1 x.2.2)).val call t s= .ok (.ptr (some (n,z.toNat*K))) s:=by
 show oA P x.1 x.2.1 x.2.2 call t s=_
 unfold oA
 rw[hx,hz,dk,dk]
 unfold qJ at hk
 split at hk
 ·rename_i e he
  show lift (indexAddr P x.1 (.slice (some (n,0)) len cap) (.int ik z)) s=_
  unfold indexAddr intOf
  simp only[he,hk,KW h1 h2,Nat.zero_add]
  rfl
 ·cases hk
theorem WK{o len K:Nat}{z:Int}(hx:aR t x.2.1=some (.ae n o len))(hz:aR t x.2.2=some (.int ik z))(hk:qJ P x.1=some K)(h1:0<=z)(h2:z<Int.ofNat len):(cW P (.indexAddr x.1 x.2.1 x.2.2)).val call t s= .ok (.kc n (o+z.toNat*K)) s:=by
 show oA P x.1 x.2.1 x.2.2 call t s=_
 unfold oA
 rw[hx,hz,dk,dk]
 unfold qJ at hk
 split at hk
 ·rename_i e he
  show lift (indexAddr P x.1 (.ae n o len) (.int ik z)) s=_
  unfold indexAddr intOf
  simp only[he,hk,KW h1 h2]
  rfl
 ·cases hk
theorem JI(hk:uc k=true)(hn:Nat.blt n s.nx=true)(h:cellsOf (s.h.get n) off k=some cs):iU n off k s= .ok cs (dq n s):=by
  cases k with
  |zero=>cases hk
  | succ k=>
    unfold cellsOf at h
    split at h
    · rename_i m tt z hg
      split at h
      · rename_i hb
        show((di n).bind fun o=>match o with
          | .cells m t z=>bC (Nat.ble (off+(k+1)) m) <| lift (jJ t z (k+1) off)
          | .ro m t=>bC (Nat.ble (off+(k+1)) m) <| lift (jJ t [] (k+1) off)
          |_=>fail) s=_
        rw[M.dA (tI hn hg)]
        show bC (Nat.ble (off+(k+1)) m) (lift (jJ tt z (k+1) off)) (dq n s)=_
        rw[hb,fG,h]
        rfl
      · cases h
    · cases h
theorem R1(hg:mU P ty=some ag)(hw:yU P ty ag=some k)(hk:uc k=true)(hn:Nat.blt n s.nx=true)(hv:zC ag cs=some v)(h:cellsOf (s.h.get n) off k=some cs):loadVar P ty n off s= .ok v (dq n s):=by
  unfold loadVar
  rw[hg,dk]
  cases ag with
  | true=>
    have hw:dG P ty=some k:=hw
    injection hv with hv;subst hv
    show(bh (dG P ty) fun k=>(iU n off k).bind fun l=>M.pure (AV.agg l)) s=_
    rw[hw,dk,M.dA (JI hk hn h)]
    rfl
  | false=>
    injection hw with hw;subst hw
    show((iU n off 1).bind fun l=>lift (one l)) s=_
    rw[M.dA (JI hk hn h)]
    show lift (one cs) (dq n s)=_
    rw[show one cs=some v from hv]
    rfl
theorem Gw{x:TypeId×Operand}{a:Nat×Nat}(ha:aR t x.2=some (.ptr (some a)))(hg:mU P x.1=some ag)(hw:yU P x.1 ag=some k)(hk:uc k=true)(hn:Nat.blt a.1 s.nx=true)(hv:zC ag cs=some v)(h:cellsOf (s.h.get a.1) a.2 k=some cs):(cW P (.load x.1 x.2)).val call t s= .ok v (dq a.1 s):=by
 show o5 P x.1 x.2 call t s=_
 unfold o5
 rw[ha,dk]
 show loadVar P x.1 a.1 a.2 s=_
 exact R1 hg hw hk hn hv h
theorem WL{a:Nat×Nat}{o:aE}(ha:aR t x.2.1=some (.ptr (some a)))(hv:aR t x.2.2=some v)(hk:dG P x.1=some k)(hl:Nat.beq v.cells.length k=true)(hp:uc k=true)(hn:Nat.blt a.1 s.nx=true)(ht:Nat.blt a.1 top=true)(h:zb (s.h.get a.1) a.2 v.cells=some o):(cW P (.store x.1 x.2.1 x.2.2)).val call t s= .ok lH (og a.1 (some o) (dq a.1 s)):=by
  show qG P x.1 x.2.1 x.2.2 call t s=_
  unfold qG
  rw[ha,dk]
  show bh (aR t x.2.2) (fun v=>(storeVar P x.1 a.1 a.2 v).bind fun _=>M.pure lH) s=_
  rw[hv,dk]
  have hw : storeVar P x.1 a.1 a.2 v s= .ok () (og a.1 (some o) (dq a.1 s)):=by
    unfold storeVar
    rw[hk,dk,hl,fG]
    unfold zb at h
    split at h
    · rename_i m tt z hg
      split at h
      · rename_i hb
        injection h with h;subst h
        cases hc:v.cells with
        | nil=>
          rw[hc] at hl
          have:=Nat.eq_of_beq_eq_true hl
          subst this;cases hp
        | cons y r=>
          rw[hc] at hb
          show((di a.1).bind fun o=>match o with
            | .cells m t z=>bC (and (Nat.ble (a.2+(r.length+1)) m) (and (Nat.ble m top) ((y::r).all AV.ct))) <| dy a.1 (some (.cells m (Tr.fill (y::r) a.2 t) z))
            |_=>fail) s=_
          rw[M.dA (tI hn hg)]
          show bC (and (Nat.ble (a.2+(r.length+1)) m) (and (Nat.ble m top) ((y::r).all AV.ct))) (dy a.1 (some (.cells m (Tr.fill (y::r) a.2 tt) z))) (dq a.1 s)=_
          rw[show(and (Nat.ble (a.2+(r.length+1)) m) (and (Nat.ble m top) ((y::r).all AV.ct)))=true from hb,fG]
          obtain⟨e1,e2,_⟩:=y9 a.1 s
          exact BF (p:=.cells m tt z) (by rw[e2];exact hn) (by rw[e1];exact hg) rfl ht
      · cases h
    · cases h
  rw[M.dA hw]
  rfl
theorem WM{x:TypeId×Operand}{a:Nat×Nat}(ha:aR t x.2=some (.kc a.1 a.2))(hg:mU P x.1=some ag){z:Nat}(hz:dG P x.1=some z)(hw:yU P x.1 ag=some k)(hv:zC ag cs=some v)(ht:top<=a.1)(h:bM F a.1 a.2 k=some cs):(cW P (.load x.1 x.2)).val (bV P sp F n) t s= .ok v s:=by
  show o5 P x.1 x.2 (bV P sp F n) t s=_
  unfold o5
  rw[ha,dk]
  show(match Nat.ble top a.1 with
    |true=>pM P x.1 (bV P sp F n) a.1 a.2
    |false=>qA P x.1 a.1 a.2) s=_
  rw[bH.2 ht]
  have hr :∀k,bM F a.1 a.2 k=some cs->bV P sp F n (.row a.1 a.2 k) [] s= .ok (.agg cs) s:=by
    intro k h
    have:mV F a.1 a.2 k s= .ok (.agg cs) s:=by
      unfold bM at h
      unfold mV
      cases e:F a.1 with
      |none=>rw[e] at h;cases h
      | some l=>
        rw[e] at h
        simp only at h
        split at h
        · rename_i hb
          injection h with h;subst h
          rw[dk,hb,fG]
          rfl
        · cases h
    cases n<;>exact this
  show pM P x.1 (bV P sp F n) a.1 a.2 s=_
  unfold pM
  rw[hg,dk]
  rw[hz,dk]
  cases ag with
  | true=>
    have hw:dG P x.1=some k:=hw
    rw[hz] at hw;injection hw with hw;subst hw
    injection hv with hv;subst hv
    show((bV P sp F n (.row a.1 a.2 z) []).bind fun v=>_) s=_
    rw[M.dA (hr z h)]
    rfl
  | false=>
    injection hw with hw;subst hw
    show((bV P sp F n (.row a.1 a.2 1) []).bind fun v=>_) s=_
    rw[M.dA (hr 1 h)]
    show lift (one cs) s=_
    rw[show one cs=some v from hv]
    rfl
theorem Y2{x:BinOp×TypeId×Operand×Operand×TypeId}{k:IntKind}(ho:x.1= .rem)(hx:aR t x.2.2.1=some (.int k a))(hy:aR t x.2.2.2.1=some (.int k b))(hb:b≠0):(cW P (.binOp x.1 x.2.1 x.2.2.1 x.2.2.2.1 x.2.2.2.2)).val call t s= .ok (.int k (Int.tmod a b)) s:=by
 rw[ho]
 exact WB hx hy hb rfl
theorem Y3{x:BinOp×TypeId×Operand×Operand×TypeId}{k k':IntKind}(ho:nD x.1=true)(hx:aR t x.2.2.1=some (.int k a))(hy:aR t x.2.2.2.1=some (.int k' b))(hb:0<=b):(cW P (.binOp x.1 x.2.1 x.2.2.1 x.2.2.2.1 x.2.2.2.2)).val call t s= .ok (.int k (aq x.1 k a b)) s:=by
 obtain⟨o,ty,p,q,yt⟩:=x
 exact TK (by rw[hx,hy];exact congrArg _ (congrArg _ ho)) hb
theorem E8:∀{l:List (Nat×AV)},l.map (fun q=>t.get q.1)=l.map (fun q=>some q.2)->qP t l
  |[],_=>trivial
  | p::l,h=>by
    simp only[List.map_cons,List.cons.injEq] at h
    exact⟨h.1,E8 h.2⟩
theorem FI{h:Tr aE}:∀{o:List (Nat×Option aE)},o.map (fun q=>h.get q.1)=o.map (fun q=>q.2)->(o.all fun q=>F8 q.2)=true->qV h o
  |[],_,_=>trivial
  | p::l,e,k=>by
    simp only[List.map_cons,List.cons.injEq] at e
    rw[List.all_cons] at k
    obtain⟨k1,k2⟩:=and_true.1 k
    exact⟨⟨e.1,fun o ho=>by rw[ho] at k1;exact k1⟩,FI e.2 k2⟩
end
def sR(m m':cT):Prop:=m.i=m'.i/\(∀n∈m.rd,n∈m'.rd)/\(∀n∈m.wr,n∈m'.wr)/\m.lo=m'.lo/\m.hi=m'.hi
def jO:List cT->List cT->Prop
 |[],[]=>True
 |x::l,y::m=>sR x y/\jO l m
 |_,_=>False
theorem sR.refl(m:cT):sR m m:=⟨rfl,fun _ h=>h,fun _ h=>h,rfl,rfl⟩
theorem jO.refl:∀l:List cT,jO l l
 |[]=>trivial
 |x::l=>⟨sR.refl x,jO.refl l⟩
theorem jO.app:∀{a a' b b':List cT},jO a a'->jO b b'->jO (a++b) (a'++b')
 |[],[],_,_,_,h=>h
 |_::_,_::_,_,_,h,k=>⟨h.1,jO.app h.2 k⟩
 |[],_::_,_,_,h,_=>h.elim
 |_::_,[],_,_,h,_=>h.elim
theorem ER{lo hi:Nat}:∀{l:List Nat},sc lo hi l=true↔∃n∈l,lo<=n/\n<hi
  |[]=>by simp[sc]
  | x ::l=>by
    have ih:=ER (lo:=lo) (hi:=hi) (l:=l)
    unfold sc
    cases q:(Nat.ble lo x&&Nat.blt x hi) with
    | true=>
      obtain⟨h1,h2⟩:=and_true.1 q
      exact⟨fun _=>⟨x,List.mem_cons_self,bH.1 h1,(blt_eq _ _).mp h2⟩,fun _=>rfl⟩
    | false=>
      refine ih.trans ⟨fun⟨n,a,b⟩=>⟨n,List.mem_cons_of_mem _ a,b⟩,fun⟨n,a,b⟩=>?_⟩
      rcases List.mem_cons.1 a with rfl|a
      · exfalso
        rw[show(Nat.ble lo n&&Nat.blt n hi)=true from and_true.2 ⟨bH.2 b.1,(blt_eq _ _).mpr b.2⟩] at q
        cases q
      · exact⟨n,a,b⟩
theorem ES:∀{a b:List Nat},meets a b=true↔∃n∈a,n∈b
  |[],b=>by simp[meets]
  | x ::a,b=>by
    have ih:=ES (a:=a) (b:=b)
    unfold meets
    cases q:pY x b with
    |true=>exact⟨fun _=>⟨x,List.mem_cons_self,yo.1 q⟩,fun _=>rfl⟩
    | false=>
      refine ih.trans ⟨fun⟨n,h,k⟩=>⟨n,List.mem_cons_of_mem _ h,k⟩,fun⟨n,h,k⟩=>?_⟩
      rcases List.mem_cons.1 h with rfl|h
      · rw[yo.2 k] at q;cases q
      · exact⟨n,h,k⟩
theorem Be{a b:List Nat}(h:∀k∈a,k∈b)(n:Nat)(hn:n∈below m a):n∈below m b:=by
 obtain⟨h1,h2⟩:=qp.1 hn
 exact qp.2 ⟨h n h1,h2⟩
theorem rG(l:List Nat):below 0 l=[]:=rfl
theorem R3{x y y':cT}(hx:sR x x')(hy:sR y y')(h:oW x' y'=true):oW x y=true:=by
  unfold oW at h ⊢
  obtain⟨h1,h2⟩:=and_true.1 h
  refine and_true.2 ⟨?_,?_⟩
  · cases q:meets x.wr y.rd with
    |false=>rfl
    | true=>
      obtain⟨n,a,b⟩:=ES.1 q
      rw[ES.2 ⟨n,hx.2.2.1 n a,hy.2.1 n b⟩] at h1
      cases h1
  · cases q:sc x.lo x.hi y.rd with
    |false=>rfl
    | true=>
      obtain⟨n,a,b⟩:=ER.1 q
      rw[hx.2.2.2.1,hx.2.2.2.2] at b
      rw[ER.2 ⟨n,hy.2.1 n a,b⟩] at h2
      cases h2
theorem R4{x:cT}(hx:sR x x')(h:oX x'=true):oX x=true:=by
  unfold oX at h ⊢
  cases e:x'.wr with
  |cons a l=>rw[e] at h;cases h
  | nil=>
    rw[e] at h
    cases e2:x.wr with
    |nil=>rw[hx.2.2.2.1,hx.2.2.2.2];exact h
    | cons a l=>
      have:=hx.2.2.1 a (by rw[e2];exact List.mem_cons_self)
      rw[e] at this;cases this
theorem Jp{b:Array Nat}{x:cT}(hx:sR x x'):∀{l l':List cT},jO l l'->oB b x' l'=true->oB b x l=true
  |[],[],_,_=>rfl
  |[],_::_,h,_=>h.elim
  |_::_,[],h,_=>h.elim
  | y :: l, y'::l',hl,h=>by
    unfold oB at h ⊢
    cases q:(Nat.beq x'.i y'.i||(oW x' y'|| !loose b x'.i y'.i)) with
    |false=>rw[q] at h;cases h
    | true=>
      rw[q] at h
      have:(Nat.beq x.i y.i||(oW x y|| !loose b x.i y.i))=true:=by
        rw[hx.1,hl.1.1]
        cases q1:Nat.beq x'.i y'.i with
        |true=>rfl
        | false=>
          rw[q1] at q
          cases q2:oW x' y' with
          |true=>rw[R3 hx hl.1 q2];rfl
          | false=>
            rw[q2] at q
            cases oW x y
            · exact q
            · rfl
      rw[this]
      exact Jp hx hl.2 h
theorem KX{b:Array Nat}{all Hf:List cT}(ha:jO all Hf):∀{l l':List cT},jO l l'->mO b Hf l'=true->mO b all l=true
  |[],[],_,_=>rfl
  |[],_::_,h,_=>h.elim
  |_::_,[],h,_=>h.elim
  | x ::l,x'::l',hl,h=>by
    unfold mO at h ⊢
    cases q:(oX x'||oB b x' Hf) with
    |false=>rw[q] at h;cases h
    | true=>
      rw[q] at h
      have:(oX x||oB b x all)=true:=by
        cases q1:oX x' with
        |true=>rw[R4 hl.1 q1];rfl
        | false=>
          rw[q1] at q
          rw[Jp hl.1 ha q]
          cases oX x<;>rfl
      rw[this]
      exact KX ha hl.2 h
theorem gS.cover{P:Program}{call:bf}{G:AF->AS->Prop}{f nt:Nat}{K:List Item}{ops:Array Oper}{acc CK:List cT}{i:Nat}{t:Tr AV}{s:AS}(h:jO acc CK)(H:gS P call G f nt K ops CK i t s):gS P call G f nt K ops acc i t s:=by
 obtain⟨t1,ms,s1,q1,q2,q3⟩:=H
 exact⟨t1,ms,s1,q1,KX (h.app (jO.refl ms)) (h.app (jO.refl ms)) q2,q3⟩
theorem SL{b:Bool}(hy:b=true->A)(cK:b=false->B)(ha:b=true->A->X)(hb:b=false->B->X):X:=by
 cases b with
 |true=>exact ha rfl (hy rfl)
 |false=>exact hb rfl (cK rfl)
theorem TP{o:Option AV}{d:Decidable c}(h:o=some (.bool (@decide c d)))(hy:c->A)(cK:¬c->B)(ha:o=some (.bool true)->A->X)(hb:o=some (.bool false)->B->X):X:=by
 by_cases q:c
 ·rw[decide_eq_true q] at h;exact ha h (hy q)
 ·rw[decide_eq_false q] at h;exact hb h (cK q)
theorem TQ{x:Nat×Nat×kT}(h:Hb v=some x):v= .slice (some (x.1,0)) x.2.1 x.2.2:=by
 unfold Hb at h;split at h
 ·injection h with h;subst h;rfl
 ·cases h
theorem QO{op:Op}{x:TypeId×Operand×Option Operand×Option Operand}(h:Et op=some x):op= .slice x.1 x.2.1 x.2.2.1 x.2.2.2 none:=by
 unfold Et at h;split at h
 ·injection h with h;subst h;rfl
 ·cases h
theorem SM{i:Int}(h0:0<=i)(h1:i<(n:Int)):within i n=some i.toNat:=by
 obtain⟨k,rfl⟩:=Int.eq_ofNat_of_zero_le h0
 have hk:k<n:=by omega
 show(match (Int.ofNat k) with| .ofNat k=>(match Nat.blt k n with|true=>some k|false=>none)| .negSucc _=>none)=some k
 have:Nat.blt k n=true:=by rw[blt_eq];exact hk
 simp only[this]
theorem JJ{t:Tr AV}{o:Option Operand}{d v:Int}{pb:Nat}(h:wK t o d=some v)(h0:0<=v)(h1:v<=(pb:Int)):∃y,opt (aR t) o=some y/\∀dn:Nat,(Int.ofNat dn=d)->bound y pb dn=some v.toNat:=by
  cases o with
  | none=>
    injection h with h;subst h
    exact⟨none,rfl,fun dn e=>by subst e;rfl⟩
  | some x=>
    unfold wK at h
    simp only at h
    cases e:aR t x with
    |none=>rw[e] at h;cases h
    | some z=>
      rw[e] at h
      cases z<;>simp only at h<;>first|(cases h;done)|skip
      rename_i k n
      injection h with h;subst h
      refine⟨some (.int k n),?_,fun dn _=>?_⟩
      · show(match aR t x with|none=>none|some v=>some (some v))=_
        rw[e]
      · show within n (pb+1)=_
        exact SM h0 aF
theorem Y4{P:Program}{call:bf}{t:Tr AV}{s:AS}{x:TypeId×Operand×Option Operand×Option Operand}{o len K:Nat}{lo hi:Int}(hx:aR t x.2.1=some (.ae n o len))(hk:qJ P x.1=some K)(h1:wK t x.2.2.1 0=some lo)(h2:wK t x.2.2.2 (Int.ofNat len)=some hi)(ht:top<=n)(a1:0<=lo)(a2:lo<=hi)(a3:hi<=Int.ofNat len):
  (cW P (.slice x.1 x.2.1 x.2.2.1 x.2.2.2 none)).val call t s= .ok (.ae n (o+lo.toNat*K) (hi.toNat - lo.toNat)) s:=by
 obtain⟨y1,e1,f1⟩:=JJ (pb:=hi.toNat) h1 a1 aF
 obtain⟨y2,e2,f2⟩:=JJ (pb:=len) h2 aF a3
 show qH P x.1 x.2.1 x.2.2.1 x.2.2.2 none call t s=_
 unfold qH
 rw[hx,dk,e1,dk,e2,dk]
 show lift (wc P x.1 (.ae n o len) y1 y2 none) s=_
 have:wc P x.1 (.ae n o len) y1 y2 none=some (.ae n (o+lo.toNat*K) (hi.toNat - lo.toNat)):=by
  unfold qJ at hk
  split at hk<;>first|(cases hk;done)|skip
  rename_i e hu
  unfold wc
  rw[hu]
  simp only[hk,f2 len rfl,f1 0 rfl,bH.2 ht]
 rw[this];rfl
theorem TS{P:Program}{o:Nat}{s:AS}(h:bM F n o k=some cs):bV P sp F m (.row n o k) [] s= .ok (.agg cs) s:=by
  have:mV F n o k s= .ok (.agg cs) s:=by
    unfold bM at h
    unfold mV
    split at h
    · rename_i l e
      split at h
      · rename_i q
        injection h with h;subst h
        rw[e,dk,q,fG];rfl
      · cases h
    · cases h
  cases m<;>exact this
theorem yr{E:Env}(hE:E.Ok):∀(fuel n:Nat) (c:Dx) (p:Pl) (rs:List ResultVar) (k:Kt) (C:bz) (G:AF->AS->Prop),Chunk E.P (bV E.P E.sp E.F n) G->
    (∀fr s j br jm s1 x s2 p,cY E.P (bV E.P E.sp E.F n) j fr s= .ok (.leave br jm) s1->finish E.P rs br jm s1= .ok x s2->k x s2 p->G fr s)->(∀fr s p,C fr s p->G fr s)->(∀f nt K t s l o nx p,E.fg=true->mi top l=true->mi top o=true->(Nat.ble s.nx nx&&Nat.ble nx top)=true->qP t l->qV s.h o->C ⟨f,eS l,nt,K,[],none⟩ (aM o nx) p->G ⟨f,t,nt,K,[],none⟩ s)->(∀f nt K t s l0 o0 l o nx p,E.fg=true->l0.map (fun q=>t.get q.1)=l0.map (fun q=>some q.2)->o0.map (fun q=>s.h.get q.1)=o0.map (fun q=>q.2)->fC E.F E.lo s.nx l0 o0 l o nx->C ⟨f,eS l,nt,K,[],none⟩ (aM o nx) p->G ⟨f,t,nt,K,[],none⟩ s)->(∀f nt K t s l o nx p,E.fg=true->mi top l=true->mi nx o=true->(Nat.ble nx s.nx&&(Nat.blt s.nx top&&Nat.ble E.lo nx))=true->qP t l->qV s.h o->mX nx l o->C ⟨f,eS l,nt,K,[],none⟩ (aM o nx) p->G ⟨f,t,nt,K,[],none⟩ s)->wp E fuel n c p rs k C->Gof E.P (bV E.P E.sp E.F n) G c
  |0,n,c,p,rs,k,C,G,hG,hk,hC,hL,hR,hB,h=>h.elim
  | fuel + 1, n,c,p,rs,k,C,G,hG,hk,hC,hL,hR,hB,h=>by
    have ih:=yr hE fuel
    have h:IJ E (wp E fuel) n c p rs k C:=h
    unfold IJ at h
    cases c with
    | fr f nt K t s=>
      simp only at h
      split at h
      · obtain⟨x,s1,h1,h⟩:=yV h
        obtain⟨y,h2,h⟩:=bD h
        rw[SJ h2] at h1
        exact hG _ _ _ _ _ h1 (ih n _ _ rs k C G hG hk hC hL hR hB h)
      · obtain⟨x,h1,h⟩:=bD h
        obtain⟨id,rfl⟩:=Rt h1
        exact iX.He hG (ih n _ _ rs k C G hG hk hC hL hR hB h)
      · obtain⟨x,s1,h1,h⟩:=yV h
        obtain⟨y,h2,h⟩:=bD h
        obtain⟨v,s2,h3,h⟩:=yV h
        rw[SK h2] at h1
        exact hk _ _ _ _ _ _ _ _ _ h1 h3 h
      · exact hC _ _ _ h
      · obtain⟨h1,h2,h3,h⟩:=fU h
        obtain⟨q0,h1⟩:=and_true.1 h1
        obtain⟨q1,h1⟩:=and_true.1 h1
        obtain⟨q2,h1⟩:=and_true.1 h1
        obtain⟨q3,q4⟩:=and_true.1 h1
        exact hL _ _ _ _ _ _ _ _ _ q0 q1 q2 q3 (E8 h2) (FI h3 q4) h
      · obtain⟨h1,h2,h3,h4,h⟩:=fU h
        obtain⟨q0,q1⟩:=and_true.1 h1
        have q1:=Nat.eq_of_beq_eq_true q1
        rw[←q1] at h4
        exact hR _ _ _ _ _ _ _ _ _ _ _ q0 h2 h3 h4 h
      · obtain⟨h1,h2,h3,h4,h⟩:=fU h
        obtain⟨q0,h1⟩:=and_true.1 h1
        obtain⟨q1,h1⟩:=and_true.1 h1
        obtain⟨q2,h1⟩:=and_true.1 h1
        obtain⟨q3,q4⟩:=and_true.1 h1
        exact hB _ _ _ _ _ _ _ _ _ q0 q1 q2 q3 (E8 h2) (FI h3 q4) h4 h
      · exact h.elim
    | rg f nt K ops D i t s=>
      simp only at h
      split at h
      · obtain⟨h1,h⟩:=fU h
        obtain⟨x,s1,h2,h⟩:=yV h
        exact iX.go h1 h2 (ih n _ _ rs k C G hG hk hC hL hR hB h)
      · obtain⟨h1,h⟩:=fU h
        obtain⟨h2,h⟩:=fU h
        exact iX.done h1 h2 (ih n _ _ rs k C G hG hk hC hL hR hB h)
      · obtain ⟨o,ho,h⟩:=bD h
        obtain⟨hw,h⟩:=fU h
        obtain⟨op,d,g⟩:=o
        simp only at hw h
        have hn:∀v s1 p,(cW E.P op).val (bV E.P E.sp E.F n) t (ff D s)= .ok v s1->(wo (gW nt t d v) fun t1=>wp E fuel n (.rg f nt K ops (CI D i s s1) (i+1) t1 (su D s s1)) p rs k C)->iX E.P (bV E.P E.sp E.F n) G f nt K ops D i t s:=by
          intro v s1 p hv h
          obtain⟨t1,hp,h⟩:=bD h
          exact iX.op ho hw hv hp (ih n _ _ rs k C G hG hk hC hL hR hB h)
        generalize dv:(fun(v:AV) (s1:AS) (p:Pl)=>wo (gW nt t d v) fun t1=>wp E fuel n (.rg f nt K ops (CI D i s s1) (i+1) t1 (su D s s1)) p rs k C)=nx at h
        have hn:∀v s1 p,(cW E.P op).val (bV E.P E.sp E.F n) t (ff D s)= .ok v s1->nx v s1 p->iX E.P (bV E.P E.sp E.F n) G f nt K ops D i t s:=by
          intro v s1 p hv h
          rw[←dv] at h
          exact hn v s1 p hv h
        have sq :∀v h2 R W p,((D.isSome&&Nat.beq s.mark 0)||Nat.beq (ff D s).mark 0)=true->(∃rd wr,(∀k∈rd,k∈R\/k∈(ff D s).rd)/\(∀k∈wr,k∈W\/k∈(ff D s).wr)/\((ff D s).mark=0->rd=(ff D s).rd/\wr=(ff D s).wr)/\
            (cW E.P op).val (bV E.P E.sp E.F n) t (ff D s)= .ok v ⟨h2,(ff D s).nx+1,(ff D s).mark,rd,wr⟩)->nx v (Ha (D.isSome&&Nat.beq s.mark 0) (ff D s) h2 R W) p->iX E.P (bV E.P E.sp E.F n) G f nt K ops D i t s:=by
          rintro v h2 R W p eX ⟨rd,wr,a1,a2,a3,hv⟩ h
          cases As:(D.isSome&&Nat.beq s.mark 0) with
          | false=>
            rw[As] at eX h
            have Aj:=Nat.eq_of_beq_eq_true (show Nat.beq (ff D s).mark 0=true from eX)
            obtain⟨rfl,rfl⟩:=a3 Aj
            exact hn _ _ _ hv h
          | true=>
            rw[As] at h
            obtain⟨IK,IL⟩:=and_true.1 As
            cases D with
            |none=>cases IK
            | some acc=>
              have hm:s.mark=0:=Nat.eq_of_beq_eq_true IL
              have a1:∀k∈rd,k∈R:=fun k hk=>(a1 k hk).resolve_right (by show ¬k∈([]:List Nat);simp)
              have a2:∀k∈wr,k∈W:=fun k hk=>(a2 k hk).resolve_right (by show ¬k∈([]:List Nat);simp)
              have h:nx v ⟨h2,(ff (some acc) s).nx+1,(ff (some acc) s).mark,R,W⟩ p:=h
              rw[←dv] at h
              obtain⟨t1,hp,h⟩:=bD h
              refine iX.op ho hw hv hp ?_
              have H:=ih n _ _ rs k C G hG hk hC hL hR hB h
              have e:su (some acc) s ⟨h2,(ff (some acc) s).nx+1,(ff (some acc) s).mark,rd,wr⟩=su (some acc) s ⟨h2,(ff (some acc) s).nx+1,(ff (some acc) s).mark,R,W⟩:=by
                show qQ s _=qQ s _
                unfold qQ
                rw[hm,rG,rG,rG,rG]
              rw[e]
              exact gS.cover (CK:=acc++[zx i s ⟨h2,(ff (some acc) s).nx+1,(ff (some acc) s).mark,R,W⟩]) (jO.app (jO.refl acc) ⟨⟨rfl,fun n h=>Be a1 n h,fun n h=>Be a2 n h,rfl,rfl⟩,trivial⟩) H
        show iX E.P (bV E.P E.sp E.F n) G f nt K ops D i t s
        unfold Qc at h
        split at h
        · obtain⟨x,h1,h⟩:=bD h
          obtain⟨a,h2,h⟩:=bD h
          obtain⟨b,h3,h⟩:=bD h
          obtain⟨a1,h4,h⟩:=bD h
          obtain⟨b1,h5,h⟩:=bD h
          obtain⟨h6,h⟩:=fU h
          obtain⟨c,h7,hy,cK⟩:=bD h
          have h6:=of_decide_eq_true h6
          have e:=AZ h1
          rw[oH h4] at h2
          rw[oH h5, ←h6] at h3
          obtain⟨r,hr,Qd⟩:=Vm h7
          have hv:(cW E.P op).val (bV E.P E.sp E.F n) t (ff D s)= .ok (.bool r) (ff D s):=by rw[e];exact WD h2 h3 hr
          cases r with
          |true=>exact hn _ _ _ hv (hy (Qd.1 rfl))
          |false=>exact hn _ _ _ hv (cK fun q=>by have:=Qd.2 q;cases this)
        · obtain⟨v',s1,h1,rfl,h⟩:=yV h
          exact hn _ _ _ h1 h
        · obtain⟨x,h1,h⟩:=bD h
          obtain⟨m,hm,h⟩:=bD h
          obtain⟨val,h2,h⟩:=bD h
          obtain⟨h3,h4,h⟩:=fU h
          have e:=EN hm
          exact hn _ _ _ (by rw[e];exact Bc h1 (hE.lz _ _ _ _ _ _ h2 h4 h3)) h
        · obtain⟨x,h1,h⟩:=bD h
          obtain⟨m,hm,h⟩:=bD h
          obtain⟨val,h2,h⟩:=bD h
          obtain⟨h3,h4,hy,cK⟩:=fU h
          have e:=EN hm
          have hv:=fun b (h4:val x.2=some (.bool b))=>(show(cW E.P op).val (bV E.P E.sp E.F n) t (ff D s)= .ok (.bool b) (E.cs (ff D s)) by rw[e];exact Bc (P:=E.P) h1 (hE.lz _ _ _ _ _ m h2 h4 h3))
          exact TP h4 hy cK (fun q h=>hn _ _ _ (hv _ q) h) (fun q h=>hn _ _ _ (hv _ q) h)
        · obtain⟨x,h1,h⟩:=bD h
          obtain⟨a,h2,h⟩:=bD h
          obtain⟨b,h3,h⟩:=bD h
          obtain⟨xs,h4,h⟩:=bD h
          obtain⟨ys,h5,h⟩:=bD h
          obtain⟨h6,h⟩:=fU h
          obtain⟨h7,h⟩:=fU h
          obtain⟨h8,h⟩:=fU h
          obtain⟨l,h9,h⟩:=bD h
          have e:=AZ h1
          rw[KU h4] at h2
          rw[KU h5] at h3
          have h8:E.P.stoodInHeld x.2.1=false:=by simpa using h8
          split at h
          · rename_i eo
            rw[eo] at h6 e
            obtain⟨hy,cK⟩:=h
            have hv:(cW E.P op).val (bV E.P E.sp E.F n) t (ff D s)= .ok (.bool (allEq l)) (ff D s):=by rw[e];exact Vi h2 h3 h6 h7 h8 h9 rfl
            cases q:allEq l with
            |true=>rw[q] at hv;exact hn _ _ _ hv (hy q)
            |false=>rw[q] at hv;exact hn _ _ _ hv (cK q)
          · rename_i eo
            rw[eo] at h6 e
            obtain⟨hy,cK⟩:=h
            have hv:(cW E.P op).val (bV E.P E.sp E.F n) t (ff D s)= .ok (.bool (!allEq l)) (ff D s):=by rw[e];exact Vh h2 h3 h6 h7 h8 h9 rfl
            cases q:allEq l with
            |true=>rw[q] at hv;exact hn _ _ _ hv (hy q)
            |false=>rw[q] at hv;exact hn _ _ _ hv (cK q)
          · exact h.elim
        · obtain⟨As,h⟩:=fU h
          obtain⟨x,h1,⟨rd,wr,k1,k2,k3⟩,hy,cK⟩:=bD h
          obtain⟨IK,IL⟩:=and_true.1 As
          cases D with
          |none=>cases IK
          | some acc=>
            have hm:s.mark=0:=Nat.eq_of_beq_eq_true IL
            have OA:∀v h2 ep R W p,(∀k∈rd,k∈R)->(∀k∈wr,k∈W)->(cW E.P op).val (bV E.P E.sp E.F n) t (ff (some acc) s)= .ok v ⟨h2,ep,(ff (some acc) s).mark,rd,wr⟩->nx v ⟨h2,ep,(ff (some acc) s).mark,R,W⟩ p->iX E.P (bV E.P E.sp E.F n) G f nt K ops (some acc) i t s:=by
              intro v h2 ep R W p a1 a2 hv h
              rw[←dv] at h
              obtain⟨t1,hp,h⟩:=bD h
              refine iX.op ho hw hv hp ?_
              have H:=ih n _ _ rs k C G hG hk hC hL hR hB h
              have e:su (some acc) s ⟨h2,ep,(ff (some acc) s).mark,rd,wr⟩=su (some acc) s ⟨h2,ep,(ff (some acc) s).mark,R,W⟩:=by
                show qQ s _=qQ s _
                unfold qQ
                rw[hm,rG,rG,rG,rG]
              rw[e]
              exact gS.cover (CK:=acc++[zx i s ⟨h2,ep,(ff (some acc) s).mark,R,W⟩]) (jO.app (jO.refl acc) ⟨⟨rfl,fun n h=>Be a1 n h,fun n h=>Be a2 n h,rfl,rfl⟩,trivial⟩) H
            rcases k3 with⟨kφ,k3⟩|k3
            · exact OA _ _ _ _ _ _ k1 k2 (Bc h1 k3) (hy kφ)
            · exact OA _ _ _ _ _ _ k1 k2 (Bc h1 k3) cK
        · obtain⟨x,h1,h⟩:=bD h
          obtain⟨a,h2,h⟩:=bD h
          obtain⟨a',h3,h⟩:=bD h
          obtain⟨b,h4,h⟩:=bD h
          obtain⟨m,h5,h⟩:=bD h
          obtain⟨i1,h6,h⟩:=bD h
          obtain⟨hb,k1,k2,k3,k4,k5,k6,k7,h⟩:=fU h
          obtain⟨b1,hb⟩:=and_true.1 hb
          obtain⟨b0,hb⟩:=and_true.1 hb
          obtain⟨b2,hb⟩:=and_true.1 hb
          obtain⟨b3,hb⟩:=and_true.1 hb
          obtain⟨b4,b5⟩:=and_true.1 hb
          have b1:=Nat.eq_of_beq_eq_true b1
          obtain⟨ty,e,e1,e2,e3,e4,e5⟩:=JH h6
          cases iY:E.P.info? e with
          |none=>rw[iY] at e3;cases e3
          | some i0=>
            rw[iY] at e3
            simp only[Option.map_some,Option.some.injEq,Prod.mk.injEq] at e3
            obtain⟨q1,q2,q3⟩:=e3
            rw[TO h3,k1,k2,b1, ←q1] at h2
            rw[RZ h5] at h4
            rw[←q1] at k5 k7 h b0
            rw[←q2] at k6 e5
            refine sq _ _ _ _ _ b5 ?_ h
            rw[JG h1]
            obtain⟨rd,wr,d1,d2,d3,d4⟩:=WJ h2 h4 e1 e2 iY (by rw[q3,e4];rfl) k3 k4 (by rw[b2,b3,b4];rfl) k5 ((blt_eq _ _).mp b0) e5 k6 k7
            exact⟨rd,wr,fun k hk=>by rcases d1 k hk with rfl|rfl|h;exact .inl jQ;exact .inl jQ;exact .inr h,fun k hk=>by rcases d2 k hk with rfl|h;exact .inl jQ;exact .inr h,d3,d4⟩
        · obtain⟨x,h1,h⟩:=bD h
          obtain⟨a,h2,h⟩:=bD h
          obtain⟨a',h3,h⟩:=bD h
          obtain⟨ad,h4,h⟩:=bD h
          obtain⟨z,h5,h⟩:=bD h
          obtain⟨z',h6,h⟩:=bD h
          obtain⟨K1,h7,h⟩:=bD h
          obtain⟨h8,h9,eA,h⟩:=fU h
          refine hn _ _ _ ?_ h
          rw[JF h1]
          rw[Rs h3,h4] at h2
          obtain⟨n0,o0⟩:=ad
          have h8:o0=0:=Nat.eq_of_beq_eq_true h8
          subst h8
          rw[oH h6] at h5
          exact Y1 h2 h5 h7 h9 eA
        · obtain⟨x,h1,h⟩:=bD h
          obtain⟨a,h2,h⟩:=bD h
          obtain⟨a',h3,h⟩:=bD h
          obtain⟨z,h5,h⟩:=bD h
          obtain⟨z',h6,h⟩:=bD h
          obtain⟨K1,h7,h9,eA,h⟩:=bD h
          refine hn _ _ _ ?_ h
          rw[JF h1]
          rw[EP h3] at h2
          rw[oH h6] at h5
          exact WK h2 h5 h7 h9 eA
        · obtain⟨x,h1,h⟩:=bD h
          obtain⟨a,h2,h⟩:=bD h
          obtain⟨a',h3,h⟩:=bD h
          obtain⟨ag,h4,h⟩:=bD h
          obtain⟨k1,h5,h⟩:=bD h
          obtain⟨h6,h⟩:=fU h
          obtain⟨h7,h⟩:=fU h
          obtain⟨v,h8,h9,h⟩:=bD h
          refine hn _ _ _ ?_ h
          rw[AW h1]
          rw[Eu h3] at h2
          exact Gw h2 h4 h5 h6 h7 h8 h9
        · obtain⟨x,h1,h⟩:=bD h
          obtain⟨a,h2,h⟩:=bD h
          obtain⟨a',h3,h⟩:=bD h
          obtain⟨ag,h4,h⟩:=bD h
          obtain⟨h5,h⟩:=fU h
          obtain⟨h7,h8,hy,cK⟩:=fU h
          have h5:ag=false:=by simpa using h5
          subst h5
          rw[Eu h3] at h2
          exact SL hy cK (fun e h=>hn _ _ _ (by rw[AW h1];exact Gw h2 h4 rfl rfl h7 rfl (by rw[h8,e])) h) (fun e h=>hn _ _ _ (by rw[AW h1];exact Gw h2 h4 rfl rfl h7 rfl (by rw[h8,e])) h)
        · obtain⟨x,h1,h⟩:=bD h
          obtain⟨a,h2,h⟩:=bD h
          obtain⟨a',h3,h⟩:=bD h
          obtain⟨ag,h4,h⟩:=bD h
          obtain⟨z,hz,h⟩:=bD h
          obtain⟨k1,h5,h⟩:=bD h
          obtain⟨v,h8,h9,eA,h⟩:=bD h
          refine hn _ _ _ ?_ h
          rw[AW h1]
          rw[R0 h3] at h2
          exact WM h2 h4 hz h5 h8 h9 eA
        · obtain⟨x,h1,h⟩:=bD h
          obtain⟨a,h2,h⟩:=bD h
          obtain⟨a',h3,h⟩:=bD h
          obtain⟨v,h4,h⟩:=bD h
          obtain⟨k1,h5,h⟩:=bD h
          obtain⟨h6,h⟩:=fU h
          obtain⟨h7,h⟩:=fU h
          obtain⟨h8,h⟩:=fU h
          obtain⟨h9,eA,h⟩:=fU h
          refine hn _ _ _ ?_ h
          rw[QN h1]
          rw[Eu h3] at h2
          exact WL h2 h4 h5 h6 h7 h8 h9 eA
        · obtain⟨x,h1,h⟩:=bD h
          obtain⟨h6,h⟩:=fU h
          obtain⟨a,h2,h⟩:=bD h
          obtain⟨b,h3,h⟩:=bD h
          obtain⟨a1,h4,h⟩:=bD h
          obtain⟨b1,h5,h7,h⟩:=bD h
          refine hn _ _ _ ?_ h
          rw[AZ h1]
          rw[oH h4] at h2
          rw[oH h5] at h3
          exact Y3 h6 h2 h3 h7
        · obtain⟨x,h1,h⟩:=bD h
          obtain⟨h6,h⟩:=fU h
          obtain⟨a,h2,h⟩:=bD h
          obtain⟨b,h3,h⟩:=bD h
          obtain⟨a1,h4,h⟩:=bD h
          obtain⟨b1,h5,h⟩:=bD h
          obtain⟨h8,h7,h⟩:=fU h
          have ea:x.1= .rem:=by revert h6;split<;>intro h6<;>first|assumption|cases h6
          have h8:=of_decide_eq_true h8
          refine hn _ _ _ ?_ h
          rw[AZ h1]
          rw[oH h4] at h2
          rw[oH h5, ←h8] at h3
          exact Y2 ea h2 h3 h7
        · obtain⟨x,h1,h⟩:=bD h
          obtain⟨a,h2,h⟩:=bD h
          obtain⟨a',h3,h⟩:=bD h
          obtain⟨b,h4,h⟩:=bD h
          obtain⟨b',h5,h⟩:=bD h
          obtain⟨i1,h6,h⟩:=bD h
          obtain⟨hb,k1,k2,k3,k4,k5,k6,k7,k8,h⟩:=fU h
          obtain⟨b1,hb⟩:=and_true.1 hb
          obtain⟨b2,hb⟩:=and_true.1 hb
          obtain⟨b3,b4⟩:=and_true.1 hb
          obtain⟨ty,e,e1,e2,e3,e4,e5⟩:=JH h6
          cases iY:E.P.info? e with
          |none=>rw[iY] at e3;cases e3
          | some i0=>
            rw[iY] at e3
            simp only[Option.map_some,Option.some.injEq,Prod.mk.injEq] at e3
            obtain⟨q1,q2,q3⟩:=e3
            rw[TQ h3] at h2
            rw[EP h5] at h4
            rw[←q1] at k4 k6 k8 h b1
            rw[←q2] at k7 e5
            refine sq _ _ _ _ _ b4 ?_ h
            rw[JG h1]
            obtain⟨rd,wr,d1,d2,d3,d4⟩:=WI (s:=ff D s) (call:=bV E.P E.sp E.F n) h2 k1 h4 e1 e2 iY (by rw[q3,e4];rfl) b1 k3 (fun s'=>TS k4) k5 k2 (by rw[b2,b3];rfl) k6 e5 k7 k8
            exact⟨rd,wr,fun k hk=>by rcases d1 k hk with rfl|h;exact .inl jQ;exact .inr h,fun k hk=>by rcases d2 k hk with rfl|h;exact .inl jQ;exact .inr h,d3,d4⟩
        · obtain⟨x,h1,h⟩:=bD h
          obtain⟨a,h2,h⟩:=bD h
          obtain⟨a',h3,h⟩:=bD h
          obtain⟨K1,h4,h⟩:=bD h
          obtain⟨mr,h5,h⟩:=bD h
          obtain⟨iY,h6,h7,h8,h9,k1,k2,k3,h⟩:=bD h
          subst h7;subst h8
          rw[EP h3] at h2
          refine hn _ _ _ ?_ h
          rw[QO h1]
          exact Y4 h2 h4 h5 h6 h9 k1 k2 k3
        · obtain⟨x,h1,h⟩:=bD h
          obtain⟨a,h2,h⟩:=bD h
          obtain⟨n',h3,h⟩:=bD h
          obtain⟨i',h4,h⟩:=bD h
          obtain⟨i1,h5,h⟩:=bD h
          obtain⟨y,h6,h⟩:=bD h
          obtain⟨hb,h7,h⟩:=fU h
          obtain⟨b1,hb⟩:=and_true.1 hb
          obtain⟨b2,hb⟩:=and_true.1 hb
          obtain⟨b3,hb⟩:=and_true.1 hb
          obtain⟨b4,b5⟩:=and_true.1 hb
          refine hn _ _ _ ?_ h
          rw[QY h1]
          rw[KV h3] at h2
          rw[oH h5,EO b3] at h4
          exact YZ h2 h4 (Kk h6) b1 b2 (TN b4) h7 b5
        · obtain⟨x,h1,h⟩:=bD h
          obtain⟨a,h2,h⟩:=bD h
          obtain⟨n',h3,h⟩:=bD h
          obtain⟨i',h4,h⟩:=bD h
          obtain⟨i1,h5,h⟩:=bD h
          obtain⟨v',h8,h⟩:=bD h
          obtain⟨v1,h9,h⟩:=bD h
          obtain⟨y,h6,h⟩:=bD h
          obtain⟨hb,h7,h⟩:=fU h
          obtain⟨b1,hb⟩:=and_true.1 hb
          obtain⟨b2,hb⟩:=and_true.1 hb
          obtain⟨b3,hb⟩:=and_true.1 hb
          obtain⟨b4,hb⟩:=and_true.1 hb
          obtain⟨b5,b6⟩:=and_true.1 hb
          refine hn _ _ _ ?_ h
          rw[Rb h1]
          rw[KV h3] at h2
          rw[oH h5,EO b3] at h4
          rw[oH h9,EO b4] at h8
          exact Y0 h2 h4 h8 (Kk h6) b1 b2 h7 b5 b6
        · obtain⟨x,h1,h2,h⟩:=bD h
          exact hn _ _ _ (RY h1 h2) h
        · obtain⟨x,h1,h⟩:=bD h
          obtain⟨m,hm,h⟩:=bD h
          have e:=EN hm
          split at h
          · exact h.elim
          · rename_i u7
            obtain⟨fn,ga,h⟩:=bD h
            obtain⟨body,gP,h⟩:=bD h
            obtain⟨ir,h⟩:=fU h
            obtain⟨mW,h⟩:=fU h
            have ir:(fn.name == "runtime.NumGoroutine")=false:=by simpa using ir
            obtain⟨fo,xs,ts,eo,hf,ha⟩:=Kj h1
            have H:=ih m _ _ _ nx (fun _ _ _=>False) (Ev E.P (bV E.P E.sp E.F m) fun br jm s1=>∃v s2 p,finish E.P fn.results.toList br jm s1= .ok v s2/\nx v s2 p) Chunk.ev
              (fun fr s j br jm s1 v s2 p q1 q2 q3=>⟨j,br,jm,s1,q1,v,s2,p,q2,q3⟩) (fun _ _ _ q=>q.elim) (fun _ _ _ _ _ _ _ _ _ _ _ _ _ _ _ q=>q.elim) (fun _ _ _ _ _ _ _ _ _ _ _ _ _ _ _ q=>q.elim) (fun _ _ _ _ _ _ _ _ _ _ _ _ _ _ _ _ q=>q.elim) h
            obtain⟨j,br,jm,s1,q1,v,s2,p,q2,q3⟩:=H
            exact hn _ _ _ (by rw[eo,e];exact TH (by rw[hf,ha]) u7 ga gP ir mW q1 q2) q3
        · exact h.elim
theorem U(c:Prop)(x:c->A)(y:¬c->B):(c->A)/\(¬c->B):=⟨x,y⟩
theorem jk(a1 b1 a2 b2 a3 b3 a4 b4 a5 b5 a6 b6 a7 b7:Int)(x:(a1=b1/\a2=b2/\a3=b3/\a4=b4/\a5=b5/\a6=b6/\a7=b7)->A)(y:¬(a1=b1/\a2=b2/\a3=b3/\a4=b4/\a5=b5/\a6=b6/\a7=b7)->B):(allEq [(a1,b1),(a2,b2),(a3,b3),(a4,b4),(a5,b5),(a6,b6),(a7,b7)]=true->A)/\(allEq [(a1,b1),(a2,b2),(a3,b3),(a4,b4),(a5,b5),(a6,b6),(a7,b7)]=false->B):=by
 have e:allEq [(a1,b1),(a2,b2),(a3,b3),(a4,b4),(a5,b5),(a6,b6),(a7,b7)]=true↔(a1=b1/\a2=b2/\a3=b3/\a4=b4/\a5=b5/\a6=b6/\a7=b7):=by simp[allEq]
 exact⟨fun h=>x (e.1 h),fun h=>y fun q=>by rw[e.2 q] at h;cases h⟩
theorem cM.back{P:Program}{B:aZ}{s:AS}{t:Tr AV}{nt f:Nat}{K:List Item}{o:List (Nat×Option aE)}{nx:Nat}(hl:mi top l=true)(ho:mi nx o=true)(hn:(Nat.ble nx s.nx&&(Nat.blt s.nx top&&Nat.ble aI nx))=true)(hg:fb<=aI)(ht:qP t l)(hh:qV s.h o)(he:mX nx l o)(H:cM P B aI Q ⟨f,eS l,nt,K,[],none⟩ (aM o nx)):cM P B aI Q ⟨f,t,nt,K,[],none⟩ s:=by
 obtain⟨n1,n2⟩:=and_true.1 hn
 obtain⟨n2,n3⟩:=and_true.1 n2
 have n1:=bH.1 n1
 have n2:=(blt_eq _ _).mp n2
 have n3:=bH.1 n3
 let r:Nat->Nat:=fun k=>if k<nx\/top<=k then k else max k s.nx
 have r1:∀k,k<nx->r k=k:=fun k hk=>by show(if _ then _ else _)=_;rw[if_pos (.inl hk)]
 have r2:∀k,top<=k->r k=k:=fun k hk=>by show(if _ then _ else _)=_;rw[if_pos (.inr hk)]
 obtain⟨e1,e2⟩:=he r r1 r2
 refine cM.weaken (s2:=aM o nx) (t2:=eS l) [] r (fun k hk=>r1 k aF) (fun k hk ht=>?_) r2 hg ⟨Nat.zero_le _,by show nx<=top;omega⟩ rfl rfl (fun _ h=>by cases h) (fun i y hy=>?_) (fun n o2 hn hg=>?_) (fun _ h=>by cases h) (fun n m x y hn hm h1 h2 _ e=>?_) H
 ·have rf:nx<=k:=hk
  show s.nx<=(if _ then _ else _)/\(if _ then _ else _)<top
  rw[if_neg aF]
  omega
 ·have hm:=Bp (fun p hp=>qx hl p hp) hy
  exact⟨y,ht.mem _ hm,(e1 _ hm).z⟩
 ·have cV:∀p∈o,p.1<top:=fun p hp=>by have:=qx ho p hp;omega
  have hm:=tu cV hg
  obtain⟨h1,h2⟩:=hh.mem _ hm
  have cQ:n<nx:=qx ho _ hm
  rw[r1 n cQ]
  exact⟨hn,h2 o2 rfl,o2,h1,id,(e2 _ hm o2 rfl).z⟩
 ·have cV:∀p∈o,p.1<top:=fun p hp=>by have:=qx ho p hp;omega
  have a1:n<nx:=qx ho _ (tu cV h1)
  have a2:m<nx:=qx ho _ (tu cV h2)
  rw[r1 n a1,r1 m a2] at e
  exact e
theorem cM.rn{P:Program}{B:aZ}{s:AS}{t:Tr AV}{nt f:Nat}{K:List Item}{l0:List (Nat×AV)}{o0 o:List (Nat×Option aE)}{nx:Nat}(hg:fb<=aI)(h1:l0.map (fun q=>t.get q.1)=l0.map (fun q=>some q.2))(h2:o0.map (fun q=>s.h.get q.1)=o0.map (fun q=>q.2))(hw:fC B.F aI s.nx l0 o0 l o nx)(H:cM P B aI Q ⟨f,eS l,nt,K,[],none⟩ (aM o nx)):cM P B aI Q ⟨f,t,nt,K,[],none⟩ s:=by
  obtain⟨fz,r,r1,r2,r3,r4,r5,r6,r7,r8,r9⟩:=hw
  have hs:∀(l0:List (Nat×AV)),l0.map (fun q=>t.get q.1)=l0.map (fun q=>some q.2)->∀p∈l0,t.get p.1=some p.2:=by
    intro l0
    induction l0 with
    |nil=>intro _ p hp;cases hp
    | cons a l ih=>
      intro h p hp
      simp only[List.map_cons,List.cons.injEq] at h
      rcases List.mem_cons.1 hp with rfl|hp
      · exact h.1
      · exact ih h.2 p hp
  have ho:∀(o0:List (Nat×Option aE)),o0.map (fun q=>s.h.get q.1)=o0.map (fun q=>q.2)->∀p∈o0,s.h.get p.1=p.2:=by
    intro o0
    induction o0 with
    |nil=>intro _ p hp;cases hp
    | cons a l ih=>
      intro h p hp
      simp only[List.map_cons,List.cons.injEq] at h
      rcases List.mem_cons.1 hp with rfl|hp
      · exact h.1
      · exact ih h.2 p hp
  have qi:∀n y,n<top->(nU o).get n=some y->(n,some y)∈o:=fun n y hn hg=>tu (fun p hp=>(r6 p hp).1) hg
  refine cM.weaken (s2:=aM o nx) (t2:=eS l) fz r r1 (fun k hk ht=>r2 k hk ht) r3 hg ⟨Nat.zero_le _,r4⟩ rfl rfl (fun p hp=>?_) (fun i y hy=>?_) (fun n y hn hg=>?_) (fun p hp n y hn hg=>?_) (fun n m x y hn hm e1 e2 _ e=>?_) H
  · obtain⟨q1,q2,N,t',z,q3,q4⟩:=r8 p hp
    exact⟨q1,q2,N,t',z,ho o0 h2 _ q3,fun i x hx=>by obtain⟨i1,i2,i3,i4⟩:=q4 i x hx;exact⟨i1,i2,i3,fun ρ v hv=>AV.F4 WH i4 hv⟩⟩
  · have hm:=Bp (fun p hp=>(r5 p hp).1) hy
    obtain⟨_,x,hx,hv⟩:=r5 _ hm
    exact⟨x,hs l0 h1 _ hx,hv⟩
  · obtain⟨_,q⟩:=r6 _ (qi n y hn hg)
    obtain⟨q1,q2,x,q3,q4,q5⟩:=q y rfl
    exact⟨q1,q2,x,ho o0 h2 _ q3,q4,q5⟩
  · exact r9 p hp _ (qi n y hn hg) jQ
  · exact r7 _ (qi n x hn e1) _ (qi m y hm e2) jQ jQ e
theorem wL{E:Env}(hE:E.Ok){P:Program}(hP:E.P=P){B:aZ}{f nt:Nat}{t:Tr AV}{K:List Item}{s:AS}{R:AV->AS->Prop}(fq:P.follows .mixedOrders=true)(hc:hJ P B (bV E.P E.sp E.F n))(hl:∀t a,Local (bV E.P E.sp E.F n t a))(hg:fb<=aI)(eY:E.lo=aI)(hF:B.F=E.F){C:bz}(hC:∀fr s p,C fr s p->cM P B aI (Fin P rs R) fr s)(fuel:Nat)(p:Pl)(x:T)(h:T=wp E fuel n (.fr f nt K t s) p rs (fun v s _=>R v s) C:=by as_aux_lemma=>kernel_rfl)(h0:Nat.ble aI s.nx=true:=by as_aux_lemma=>kernel_rfl):cM P B aI (Fin P rs R) ⟨f,t,nt,K,[],none⟩ s:=by
 subst hP
 have H:=yr hE fuel n (.fr f nt K t s) p rs (fun v s _=>R v s) C (uj E.P B aI (Fin E.P rs R)) (Chunk.Aq fq hc hl)
  (fun fr s j br jm s1 v s2 p q1 q2 q3 h0=>cM.leave fq hc hl q1 h0 ⟨v,s2,by rw[←Bb];exact q2,q3⟩) (fun fr s p q _=>hC fr s p q)
  (fun f nt K t s l o nx p _ q1 q2 q3 q4 q5 q6 _=>cM.less q1 q2 q3 hg q4 q5 (hC _ _ _ q6)) (fun f nt K t s l0 o0 l o nx p _ q1 q2 q3 q4 _=>cM.rn hg q1 q2 (by rw[←eY,hF];exact q3) (hC _ _ _ q4)) (fun f nt K t s l o nx p _ q1 q2 q3 q4 q5 q6 q7 _=>cM.back q1 q2 (by rw[←eY];exact q3) hg q4 q5 q6 (hC _ _ _ q7)) (h▸x)
 exact uj.start h0 H
theorem WN{E:Env}(hE:E.Ok){P:Program}(hP:E.P=P){B:aZ}{f nt:Nat}{t:Tr AV}{K:List Item}{s:AS}{R:AV->AS->Prop}(fq:P.follows .mixedOrders=true)(hc:hJ P B (bV E.P E.sp E.F n))(hl:∀t a,Local (bV E.P E.sp E.F n t a))(fuel:Nat)(p:Pl)(x:T)(h:T=wp E fuel n (.fr f nt K t s) p rs (fun v s _=>R v s) (fun _ _ _=>False):=by as_aux_lemma=>kernel_rfl)(h0:Nat.ble aI s.nx=true:=by as_aux_lemma=>kernel_rfl):cM P B aI (Fin P rs R) ⟨f,t,nt,K,[],none⟩ s:=by
 subst hP
 have H:=yr hE fuel n (.fr f nt K t s) p rs (fun v s _=>R v s) (fun _ _ _=>False) (uj E.P B aI (Fin E.P rs R)) (Chunk.Aq fq hc hl)
  (fun fr s j br jm s1 v s2 p q1 q2 q3 h0=>cM.leave fq hc hl q1 h0 ⟨v,s2,by rw[←Bb];exact q2,q3⟩) (fun _ _ _ q=>q.elim) (fun _ _ _ _ _ _ _ _ _ _ _ _ _ _ _ q=>q.elim) (fun _ _ _ _ _ _ _ _ _ _ _ _ _ _ _ q=>q.elim) (fun _ _ _ _ _ _ _ _ _ _ _ _ _ _ _ _ q=>q.elim) (h▸x)
 exact uj.start h0 H
def gT(E:Env)(n:Nat)(rs:List ResultVar)(R:AV->AS->Prop)(fr:AF)(s:AS):Prop:=Ev E.P (bV E.P E.sp E.F n) (fun br jm s1=>∃v s2,finish E.P rs br jm s1= .ok v s2/\R v s2) fr s
theorem qR{E:Env}(hE:E.Ok)(vh:E.fg=false){f nt:Nat}{t:Tr AV}{K:List Item}{s:AS}{R:AV->AS->Prop}{C:bz}(hC:∀fr s p,C fr s p->gT E n rs R fr s)(fuel:Nat)(p:Pl)(x:T)(h:T=wp E fuel n (.fr f nt K t s) p rs (fun v s _=>R v s) C:=by as_aux_lemma=>kernel_rfl):gT E n rs R ⟨f,t,nt,K,[],none⟩ s:=
 yr hE fuel n (.fr f nt K t s) p rs (fun v s _=>R v s) C (gT E n rs R) Chunk.ev
  (fun fr s j br jm s1 v s2 p q1 q2 q3=>⟨j,br,jm,s1,q1,v,s2,q2,q3⟩) hC (fun _ _ _ _ _ _ _ _ _ q=>by rw[vh] at q;cases q) (fun _ _ _ _ _ _ _ _ _ _ _ q=>by rw[vh] at q;cases q) (fun _ _ _ _ _ _ _ _ _ q=>by rw[vh] at q;cases q) (h▸x)
theorem gT.call{E:Env}{g:Nat}{fn:Func}{body:Code}{args:List AV}{s:AS}{R:AV->AS->Prop}(ga:E.P.funcs[g]? =some fn)(gP:fn.body=some body)(H:gT E n fn.results.toList R ⟨g,iD args,max fn.ntmps args.length,[.code body],[],none⟩ s)(h0:((fn.name == "runtime.NumGoroutine"),(E.sp g).isNone,Nat.ble (max fn.ntmps args.length) top)=(false,true,true):=by as_aux_lemma=>kernel_rfl):∃v s2,bV E.P E.sp E.F (n+1) (.fn g) args s= .ok v s2/\R v s2:=by
 injection h0 with ir h0
 injection h0 with u7 mW
 have aax:E.sp g=none:=Option.isNone_iff_eq_none.1 u7
 obtain⟨j,br,jm,s1,q1,v,s2,q2,q3⟩:=H
 refine⟨v,s2,?_,q3⟩
 show kV E.P E.sp g (bV E.P E.sp E.F n) args s=_
 rw[E5 aax ga gP ir]
 unfold pN
 rw[mW,fG,M.dA (A9 q1)]
 exact q2
noncomputable def iF(R:List Nat):List Nat->Bool:= @List.rec Nat (fun _=>Bool) true (fun x _ ih=> @Bool.rec (fun _=>Bool) false ih (pY x R))
theorem tg{R:List Nat}:∀{l:List Nat},iF R l=true->∀k∈l,k∈R
  |[],_,k,hk=>by cases hk
  | x ::l,h,k,hk=>by
    have h: @Bool.rec (fun _=>Bool) false (iF R l) (pY x R)=true:=h
    cases q:pY x R with
    |false=>rw[q] at h;cases h
    | true=>
      rw[q] at h
      rcases List.mem_cons.1 hk with rfl|hk
      · exact yo.1 q
      · exact tg h k hk
noncomputable def qj(l:List (Nat×AV))(n:Nat):AV:=((l.find? fun q=>Nat.beq q.1 n).map (·.2)).getD .nilIface
def NK(lz:FuncId->Option (List AV->Option AV))(g:FuncId)(val:List AV->Option AV):FuncId->Option (List AV->Option AV):=fun f=>bif Nat.beq f g then some val else lz f
def se(K1:(List AV->Option AV)->bf->List AV->M AV)(sp:Sp)(lz:FuncId->Option (List AV->Option AV)):Prop:=∀g val,lz g=some val->sp g=some (K1 val)
theorem se.nil:se K1 (fun _=>none) (fun _=>none):=fun _ _ h=>by cases h
theorem se.up(h:se K1 sp lz)(g:FuncId)(val:List AV->Option AV):se K1 (qX sp g (K1 val)) (NK lz g val):=by
 intro f v e
 unfold NK at e
 unfold qX
 cases q:Nat.beq f g with
 |true=>rw[q] at e;injection e with e;subst e;rfl
 |false=>rw[q] at e;exact h f v e
theorem se.other(h:se K1 sp lz)(g:FuncId)(m:bf->List AV->M AV)(hg:lz g=none):se K1 (qX sp g m) lz:=by
 intro f v e
 unfold qX
 cases q:Nat.beq f g with
 |true=>rw[Nat.eq_of_beq_eq_true q,hg] at e;cases e
 |false=>exact h f v e
end Go.Rn
namespace Go.Rn
open Go.RowKit
variable {t:Tr AV} {s3:AS} {nt n fn:Nat} {v:AV} {br:AF} {b a:Code}
noncomputable section
def pV(l:Nat)(fr:AF):AF:=⟨fr.fn,fr.tmps,fr.nt,fr.todo,fr.defers,some l⟩
end
section
variable {P:Program} {call:bf} {s s1:AS} {l:Nat}
theorem wm{fr:AF}(h:(M.pure (cr.go fr):M cr) s= .ok (.go br) s1):br=fr/\s1=s:=by
 obtain⟨h1,h2⟩:=bW h
 injection h1 with h1
 exact⟨h1,h2⟩
theorem TU{fr:AF}(h:kH P call fr s= .ok (.go br) s1):br.round=fr.round/\(fr.round=none->br.defers=[]->fr.defers=[]/\kH P call (pV l fr) s= .ok (.go (pV l br)) s1):=by
  obtain⟨f,t,nt,K,d,r⟩:=fr
  cases K with
  | nil=>
    have h':(M.pure (cr.leave ⟨f,t,nt,[],d,r⟩ none):M cr) s= .ok (.go br) s1:=h
    cases(bW h').1
  | cons it k=>
    have h':(ua P it).val call f t nt d r k s= .ok (.go br) s1:=h
    have goal:∀(X:mb),(ua P it).val=X->X call f t nt d r k s= .ok (.go br) s1->(br.round=r/\(r=none->br.defers=[]->d=[]/\X call f t nt d (some l) k s= .ok (.go (pV l br)) s1))->br.round=r/\(r=none->br.defers=[]->d=[]/\kH P call (pV l ⟨f,t,nt,it::k,d,r⟩) s= .ok (.go (pV l br)) s1):=by
      rintro X hX _ ⟨h1,h2⟩
      refine⟨h1,fun a b=>?_⟩
      obtain⟨c,e⟩:=h2 a b
      refine⟨c,?_⟩
      show(ua P it).val call f t nt d (some l) k s=_
      rw[hX];exact e
    have pop:∀k',(M.pure (cr.go ⟨f,t,nt,k',d,r⟩):M cr) s= .ok (.go br) s1->br.round=r/\(r=none->br.defers=[]->d=[]/\(M.pure (cr.go ⟨f,t,nt,k',d,some l⟩):M cr) s= .ok (.go (pV l br)) s1):=by
      intro k' h
      obtain⟨rfl,rfl⟩:=wm h
      exact⟨rfl,fun _ b=>⟨b,rfl⟩⟩
    cases it with
    | code c=>
      cases c with
      |skip=>exact goal qS rfl h' (pop _ h')
      |label n=>exact goal qS rfl h' (pop _ h')
      |seq a b=>exact goal (o7 [.code a,.code b]) rfl h' (pop _ h')
      | cond c a b=>
        refine goal (Gi c a b) rfl h' ?_
        obtain⟨v,h1,h2⟩:=ch (show(bh (aR t c) fun v=>bh (tO v) fun v=>M.pure (cr.go ⟨f,t,nt,.code (@Bool.rec (fun _=>Code) b a v)::k,d,r⟩)) s=_ from h')
        obtain⟨v',h3,h4⟩:=ch h2
        obtain⟨q1,q2⟩:=pop _ h4
        refine⟨q1,fun a' b'=>⟨(q2 a' b').1,?_⟩⟩
        show(bh (aR t c) fun v=>bh (tO v) fun v=>M.pure (cr.go ⟨f,t,nt,.code (@Bool.rec (fun _=>Code) b a v)::k,d,some l⟩)) s=_
        rw[h1,dk,h3,dk]
        exact(q2 a' b').2
      |block i b=>exact goal (o7 [.code b,.inBlock i]) rfl h' (pop _ h')
      |loop b=>exact goal (o7 [.code b,.inLoop b]) rfl h' (pop _ h')
      |scope b=>exact goal (o7 [.code b,.inScope b]) rfl h' (pop _ h')
      | exit i=>
        refine goal (yY i) rfl h' ?_
        have h2:(match exitTo i k with
          |some k'=>M.pure (cr.go ⟨f,t,nt,k',d,r⟩)
          |none=>M.pure (cr.leave ⟨f,t,nt,.code (.exit i)::k,d,r⟩ (some (.exit i)))) s= .ok (.go br) s1:=h'
        cases e:exitTo i k with
        |none=>rw[e] at h2;cases(bW h2).1
        | some k'=>
          rw[e] at h2
          obtain⟨q1,q2⟩:=pop _ h2
          refine⟨q1,fun a' b'=>⟨(q2 a' b').1,?_⟩⟩
          show(match exitTo i k with
            |some k'=>M.pure (cr.go ⟨f,t,nt,k',d,some l⟩)
            |none=>M.pure (cr.leave ⟨f,t,nt,.code (.exit i)::k,d,some l⟩ (some (.exit i)))) s=_
          rw[e];exact(q2 a' b').2
      | goto i=>
        refine goal (yZ i) rfl h' ?_
        have h2:(match gotoIn i k with
          |some k'=>M.pure (cr.go ⟨f,t,nt,k',d,r⟩)
          |none=>M.pure (cr.leave ⟨f,t,nt,.code (.goto i)::k,d,r⟩ (some (.goto i)))) s= .ok (.go br) s1:=h'
        cases e:gotoIn i k with
        |none=>rw[e] at h2;cases(bW h2).1
        | some k'=>
          rw[e] at h2
          obtain⟨q1,q2⟩:=pop _ h2
          refine⟨q1,fun a' b'=>⟨(q2 a' b').1,?_⟩⟩
          show(match gotoIn i k with
            |some k'=>M.pure (cr.go ⟨f,t,nt,k',d,some l⟩)
            |none=>M.pure (cr.leave ⟨f,t,nt,.code (.goto i)::k,d,some l⟩ (some (.goto i)))) s=_
          rw[e];exact(q2 a' b').2
      |ret=>cases(bW (show(M.pure (cr.leave ⟨f,t,nt,.code .ret::k,d,r⟩ (some .ret)):M cr) s= .ok (.go br) s1 from h')).1
      | region i ops dr=>
        cases dr with
        | false=>
          refine goal (Fx P ops) rfl h' ?_
          obtain⟨t1,s2,h2,h3⟩:=M.bG (show((iV P call nt ops ops.toList t).bind fun t=>M.pure (cr.go ⟨f,t,nt,k,d,r⟩)) s= .ok (.go br) s1 from h')
          obtain⟨rfl,rfl⟩:=wm h3
          refine⟨rfl,fun a' b'=>⟨b',?_⟩⟩
          show((iV P call nt ops ops.toList t).bind fun t=>M.pure (cr.go ⟨f,t,nt,k,d,some l⟩)) s=_
          rw[M.dA h2];rfl
        | true=>
          refine goal (E0 P ops) rfl h' ?_
          obtain⟨t1,s2,h2,h3⟩:=M.bG (show((oK P call nt ops t).bind fun t=>M.pure (cr.go ⟨f,t,nt,k,d,r⟩)) s= .ok (.go br) s1 from h')
          obtain⟨rfl,rfl⟩:=wm h3
          refine⟨rfl,fun a' b'=>⟨b',?_⟩⟩
          show((oK P call nt ops t).bind fun t=>M.pure (cr.go ⟨f,t,nt,k,d,some l⟩)) s=_
          rw[M.dA h2];rfl
      | rangeFunc g ps a b=>
        have h2:rV g ps.toList a b call f t nt d r k s= .ok (.go br) s1:=h'
        unfold rV at h2
        cases r with
        | none=>
          obtain⟨df,s2,_,h3⟩:=M.bG h2
          obtain⟨lo,s3,_,h3⟩:=M.bG h3
          obtain⟨gv,_,h3⟩:=ch h3
          obtain⟨y,s4,_,h3⟩:=M.bG h3
          obtain⟨p,s5,_,h3⟩:=M.bG h3
          obtain⟨rfl,rfl⟩:=wm h3
          exact⟨rfl,fun _ b'=>by cases b'⟩
        | some l0=>
          obtain⟨o,s2,_,h3⟩:=M.bG h2
          split at h3
          · obtain⟨lo,s3,_,h3⟩:=M.bG h3
            obtain⟨gv,_,h3⟩:=ch h3
            obtain⟨y,s4,_,h3⟩:=M.bG h3
            obtain⟨p,s5,_,h3⟩:=M.bG h3
            obtain⟨rfl,rfl⟩:=wm h3
            exact⟨rfl,fun a' _=>by cases a'⟩
          · cases h3
      |refuse m=>cases h'
    |inBlock i=>exact goal qS rfl h' (pop _ h')
    |inScope i=>exact goal qS rfl h' (pop _ h')
    |inLoop b=>exact goal (o7 [.code b,.inLoop b]) rfl h' (pop _ h')
    | beginRound=>
      have h2:wG call f t nt d r k s= .ok (.go br) s1:=h'
      unfold wG at h2
      cases r with
      |none=>cases h2
      | some l0=>
        obtain⟨o,s2,_,h3⟩:=M.bG h2
        split at h3
        · obtain⟨_,s3,_,h4⟩:=M.bG h3
          obtain⟨rfl,rfl⟩:=wm h4
          exact⟨rfl,fun a' _=>by cases a'⟩
        · cases h3
    |_=>cases h'
theorem Kl:∀{k:Nat} {fr br:AF} {s s1:AS},cY P call k fr s= .ok (.go br) s1->br.round=fr.round/\(fr.round=none->br.defers=[]->fr.defers=[]/\cY P call k (pV l fr) s= .ok (.go (pV l br)) s1)
  |0,fr,br,s,s1,h=>by cases h;exact⟨rfl,fun _ b=>⟨b,rfl⟩⟩
  | k +1,fr,br,s,s1,h=>by
    obtain⟨y,s2,h1,h2⟩:=M.bG (show((kH P call fr).bind fun x=> @cr.rec (fun _=>M cr) (cY P call k) (fun fr j=>M.pure (cr.leave fr j)) x) s= .ok _ s1 from h)
    cases y with
    |leave ja j=>cases(bW (show(M.pure (cr.leave ja j):M cr) s2=_ from h2)).1
    | go ja=>
      have h2:cY P call k ja s2= .ok (.go br) s1:=h2
      obtain⟨a1,a2⟩:=Kl h2
      obtain⟨b1,b2⟩:=TU (l:=l) h1
      refine⟨a1.trans b1,fun q1 q2=>?_⟩
      obtain⟨c1,c2⟩:=a2 (b1.trans q1) q2
      obtain⟨d1,d2⟩:=b2 q1 c1
      exact⟨d1,(wj d2).trans c2⟩
def BW(P:Program)(call:bf)(l:Nat)(R:AF->Option Code->AS->Prop)(fr:AF)(s:AS):Prop:=fr.round=none/\fr.defers=[]/\Ev P call R (pV l fr) s
theorem Chunk.round{R:AF->Option Code->AS->Prop}:Chunk P call (BW P call l R):=by
 rintro k fr br s s1 h ⟨h1,h2,h3⟩
 obtain⟨a1,a2⟩:=Kl (l:=l) h
 obtain⟨b1,b2⟩:=a2 (a1.symm.trans h1) h2
 exact⟨a1.symm.trans h1,b1,Chunk.ev k _ _ _ _ b2 h3⟩
end
section
variable {l:Nat}
theorem E9{E:Env}(hE:E.Ok)(vh:E.fg=false){f:Nat}{K:List Item}{s:AS}{R:AF->Option Code->AS->Prop}{C:bz}(hC:∀fr s p,C fr s p->BW E.P (bV E.P E.sp E.F n) l R fr s)(fuel:Nat)(p:Pl){T:Prop}(x:T)(h:T=wp E fuel n (.fr f nt K t s) p [] (fun _ _ _=>False) C:=by as_aux_lemma=>kernel_rfl):Ev E.P (bV E.P E.sp E.F n) R ⟨f,t,nt,K,[],some l⟩ s:=
 (yr hE fuel n (.fr f nt K t s) p [] (fun _ _ _=>False) C (BW E.P (bV E.P E.sp E.F n) l R) Chunk.round
  (fun fr s j br jm s1 v s2 p q1 q2 q3=>q3.elim) hC (fun _ _ _ _ _ _ _ _ _ q=>by rw[vh] at q;cases q) (fun _ _ _ _ _ _ _ _ _ _ _ q=>by rw[vh] at q;cases q) (fun _ _ _ _ _ _ _ _ _ q=>by rw[vh] at q;cases q) (h▸x)).2.2
noncomputable section
def yD(P:Program)(call:bf)(l:Nat)(fr:AF)(s:AS):Option (AV×AS):=
  match cY P call 4 (pV l fr) s with
  | .ok (.leave _ j) s1=>(match endRound l j s1 with
    | .ok v s2=>some (v,s2)
    | .bad=>none)
  |_=>none
end
theorem Ew{P:Program}{call:bf}{fr:AF}{s:AS}(h1:fr.round=none)(h2:fr.defers=[])(h:yD P call l fr s=some (v,s3)):BW P call l (fun _ j s2=>endRound l j s2= .ok v s3) fr s:=by
 refine⟨h1,h2,?_⟩
 unfold yD at h
 split at h
 ·rename_i br j s1 e
  split at h
  ·rename_i v2 s2 e2
   injection h with h;injection h with h3 h4
   subst h3;subst h4
   exact⟨4,br,j,s1,e,e2⟩
  ·cases h
 ·cases h
theorem Ex{P:Program}{sp:Sp}{F:Nat->Option (List AV)}{args:List AV}{s s0:AS}{st:LoopState}{fV:Option Code}{d:Nat}{ps:List Tmp}(hg:getLoop l s= .ok (.loop st fV fn t nt ps a b d) s0)(hlen:(and (Nat.beq args.length ps.length) (ps.all fun p=>Nat.blt p nt))=true)(H:Ev P (bV P sp F n) (fun _ j s2=>endRound l j s2= .ok v s3) ⟨fn,lD ps args t,nt,[.code a,.beginRound,.code b],[],some l⟩ s0):bV P sp F (n+1) (.round l) args s= .ok v s3:=by
 obtain⟨k,br,j,s2,h1,h2⟩:=H
 show qq P (bV P sp F n) l args s=_
 unfold qq
 rw[M.dA hg]
 show(bC (and (Nat.beq args.length ps.length) (ps.all fun p=>Nat.blt p nt)) <| (l6 P (bV P sp F n) ⟨fn,lD ps args t,nt,[.code a,.beginRound,.code b],[],some l⟩).bind fun st=>
   @cr.rec (fun _=>M AV) (fun _=>fail) (fun _ j=>endRound l j) st) s0=_
 rw[hlen,fG,M.dA (A9 h1)]
 exact h2
theorem TV{P:Program}{call:bf}{s s1 s2 s4:AS}{df lo:Nat}{k:List Item}{f:Operand}{ps:Array Tmp}{gv y:AV}{p:Option Code}(h1:gR .defs s= .ok df s1)(h2:gR (.loop .ready none fn t nt ps.toList a b df) s1= .ok lo s2)(h3:aR t f=some gv)(h4:ju call gv [.yield lo] s2= .ok y s3)(h5:kA lo s3= .ok p s4):
  cY P call 1 ⟨fn,t,nt,.code (.rangeFunc f ps a b)::k,[],none⟩ s= .ok (.go ⟨fn,t,nt,andThen p k,[df],none⟩) s4:=by
 refine wj ?_
 show rV f ps.toList a b call fn t nt [] none k s=_
 unfold rV
 simp only
 rw[M.dA h1,M.dA h2,h3,dk,M.dA h4,M.dA h5]
 rfl
end
end Go.Rn
namespace Go.Rn
open Go.RowKit
variable {α:Type} {l:List α} {i K:Nat} {enc:α->List AV} {c c0 c':α} {r:List AV}
def gl [Inhabited α](l:List α)(z:Int):α:=l.getD z.toNat default
theorem Cd [Inhabited α]{z:Int}(h1:0<=z)(h2:z<((l.length:Nat):Int)):l[z.toNat]? =some (gl l z):=by
 have h:z.toNat<l.length:=by omega
 unfold gl
 rw[List.getD_eq_getElem?_getD,List.getElem?_eq_getElem h]
 rfl
theorem tfb{A B:Prop}(b:Bool)(x:b=true->A)(y:b=false->B):(b=true->A)/\(b=false->B):=⟨x,y⟩
theorem bN(he:∀x,(enc x).length=K)(hl:l.length*K<=top)(hc:l[i]? =some c)(j k:Nat)(hj:Nat.ble (j+k) K=true):cellsOf (some (aD enc l)) (i*K+j) k=some (((enc c).drop j).take k):=by
 have uY:=bH.1 hj
 obtain⟨q1,q2⟩:=L5 he (k:=k) hc uY
 show(match Nat.ble (i*K+j+k) (l.map enc).flatten.length with|true=>jJ (Tr.fill (l.map enc).flatten 0 .nil) [] k (i*K+j)|false=>none)=_
 rw[bH.2 q1]
 show jJ (Tr.fill (l.map enc).flatten 0 .nil) [] k (i*K+j)=_
 rw[Ek (by rw[pI he];exact hl) _ _ q1,q2]
theorem iO(he:∀x,(enc x).length=K)(hl:l.length*K<=top)(hc:l[i]? =some c0)(j k:Nat)(hj:Nat.ble (j+k) K=true):cellsOf (some (aD enc (l.set i c))) (i*K+j) k=some (((enc c).drop j).take k):=
 bN he (by rw[List.length_set];exact hl) (Ln hc) j k hj
theorem fR(he:∀x,(enc x).length=K)(hl:l.length*K<=top)(hc:l[i]? =some c)(j:Nat)(hr:enc c'=qW (enc c) j r)(hj:Nat.ble (j+r.length) K=true)(h1:r.all AV.ct=true):zb (some (aD enc l)) (i*K+j) r=some (aD enc (l.set i c')):=by
 have uY:=bH.1 hj
 obtain⟨q1,_⟩:=L5 he (k:=r.length) hc uY
 have GV:=TJ he hc hr uY
 have hlen:(l.map enc).flatten.length<=top:=by rw[pI he];exact hl
 show(match (Nat.ble (i*K+j+r.length) (l.map enc).flatten.length&&(Nat.ble (l.map enc).flatten.length top&&r.all AV.ct)) with|true=>some (aE.cells (l.map enc).flatten.length (Tr.fill r (i*K+j) (Tr.fill (l.map enc).flatten 0 .nil)) [])|false=>none)=_
 rw[show(Nat.ble (i*K+j+r.length) (l.map enc).flatten.length&&(Nat.ble (l.map enc).flatten.length top&&r.all AV.ct))=true from and_true.2 ⟨bH.2 q1,and_true.2 ⟨bH.2 hlen,h1⟩⟩]
 show some _=some _
 congr 1
 unfold aD
 rw[KT r _ _ q1 hlen,GV,pI he,pI he,List.length_set]
theorem fH(he:∀x,(enc x).length=K)(hl:l.length*K<=top)(hc:l[i]? =some c0)(j:Nat)(hr:enc c'=qW (enc c) j r)(hj:Nat.ble (j+r.length) K=true)(h1:r.all AV.ct=true):zb (some (aD enc (l.set i c))) (i*K+j) r=some (aD enc (l.set i c')):=by
 rw[fR he (by rw[List.length_set];exact hl) (Ln hc) j hr hj h1,List.set_set]
end Go.Rn
namespace Go.Rn
open Go.RowKit
def zI(nx:Nat)(x:AV):Bool:=match x with
 | .ae n _ _=>Nat.blt n nx&&Nat.blt n top
 | .func (.func _) [] []=>true
 | .slice none 0 (.known 0)=>true
 |x=>x.flat
theorem aJ.SQ{r:Nat->Nat}{n o len:Nat}(e:r n=n)(h:n<top):aJ r (.ae n o len) (.ae n o len):=by
 intro ρ v k
 simp only[VR] at k ⊢
 exact k.imp id fun⟨b,sh,c,h1,h2⟩=>⟨b,sh,c,.inl ⟨by omega,(congrArg ρ e).trans (h1.low aF)⟩,h2⟩
theorem Lp{nx:Nat}{x:AV}{r:Nat->Nat}(r1:∀k,k<nx->r k=k)(h:zI nx x=true):aJ r x x:=by
 unfold zI at h
 split at h
 ·obtain⟨h1,h2⟩:=and_true.1 h
  exact aJ.SQ (r1 _ ((blt_eq _ _).mp h1)) ((blt_eq _ _).mp h2)
 ·intro ρ v k
  simp only[VR,aQ] at k ⊢
  exact k
 ·exact aJ.lY
 ·exact aJ.flat h
noncomputable def zJ(nx:Nat)(t:Tr AV):Nat->Bool
 |0=>true
 |n+1=>(match t.get n with|some x=>zI nx x|none=>true)&&zJ nx t n
theorem FO{nx:Nat}{t:Tr AV}:∀{n i:Nat} {x:AV},zJ nx t n=true->i<n->t.get i=some x->zI nx x=true
  |0,_,_,_,h,_=>by omega
  | n +1,i,x,h,hi,hx=>by
    obtain⟨h1,h2⟩:=and_true.1 (show((match t.get n with|some x=>zI nx x|none=>true)&&zJ nx t n)=true from h)
    by_cases q:i=n
    · subst q
      rw[hx] at h1;exact h1
    · exact FO h2 aF hx
noncomputable def HA(nx:Nat)(o:aE):Bool:=match o with
 | .ro n t=>zJ nx t n
 | .pR n t=>zJ nx t n
 |_=>false
theorem T1{nx:Nat}{o:aE}{r:Nat->Nat}(r1:∀k,k<nx->r k=k)(h:HA nx o=true):c8 r o o:=by
 unfold HA at h
 split at h
 ·intro ρ N ob k
  simp only[OR] at k ⊢
  obtain⟨c,e,fr,k1,k2,k3,k4⟩:=k
  exact⟨c,e,fr,k1,k2,k3,fun i hi=>let ⟨x,v,a1,a2,a3,a4⟩:=k4 i hi;⟨x,v,a1,a2,a3,Lp r1 (FO h hi a1) ρ v a4⟩⟩
 ·intro ρ N ob k
  simp only[OR] at k ⊢
  obtain⟨c,e,fr,k1,k4⟩:=k
  exact⟨c,e,fr,k1,fun i hi=>let ⟨x,v,a1,a2,a3,a4⟩:=k4 i hi;⟨x,v,a1,a2,a3,Lp r1 (FO h hi a1) ρ v a4⟩⟩
 ·cases h
theorem yu{nx:Nat}{o:List (Nat×Option aE)}{r:Nat->Nat}(r1:∀k,k<nx->r k=k)(h:(o.all fun p=>match p.2 with|some x=>HA nx x|none=>true)=true):∀p∈o,∀x,p.2=some x->c8 r x x:=by
 intro p hp x hx
 have:=List.all_eq_true.1 h p hp
 rw[hx] at this
 exact T1 r1 this
end Go.Rn
namespace Go.Rn
theorem nj{α:Type}(enc:α->List AV)(l:List α)(c:α){K gO:Nat}{X:Prop}(h1:∀x,(enc x).length=K/\(enc x).all AV.ct=true)(h2:2*(l.length+1)*gO+4096*gO<=room)(h3:(l.length+1)*K<=Rn.top)(x:X):
  l.length=l.length/\l.length=l.length/\some (aD enc l)=some (aD enc l)/\some (aE.cells (enc c).length (Tr.fill (enc c) 0 .nil) [])=some (aE.cells (enc c).length (Tr.fill (enc c) 0 .nil) [])/\(∀x,(enc x).length=K/\(enc x).all AV.ct=true)/\2*(l.length+1)*gO+4096*gO<=room/\(l.length+1)*K<=Rn.top/\X:=⟨rfl,rfl,rfl,rfl,h1,h2,h3,x⟩
end Go.Rn
namespace Go.Rn
open Go.RowKit
variable {aI K k:Nat} {ns:List Nat} {h0 h:Tr aE} {P:Program} {ρ:Ren} {α:Type} {args cs:List AV} {x v:AV} {w:World} {enc:α->List AV} {B:aZ} {s:AS} {fn:Func} {body:Code}
def mR:List Nat->Nat
 |[]=>0
 |x::l=>pr x (mR l)
theorem M8(a b:Nat):0<pr a b:=Nat.mul_pos (Nat.pow_pos aF) aF
theorem ET:∀{l m:List Nat},mR l=mR m->l=m
  |[],[],_=>rfl
  |[],x::m,h=>by have:=M8 x (mR m);simp only[mR] at h;omega
  |x::l,[],h=>by have:=M8 x (mR l);simp only[mR] at h;omega
  | x::l,y::m,h=>by
    obtain⟨h1,h2⟩:=eQ (show pr x (mR l)=pr y (mR m) from h)
    rw[h1,ET h2]
def zd:Int->Nat
 | .ofNat n=>2*n
 | .negSucc n=>2*n+1
theorem SR:∀{a b:Int},zd a=zd b->a=b
 | .ofNat n,.ofNat m,h=>by have h:2*n=2*m:=h;rw[show n=m by omega]
 | .ofNat n,.negSucc m,h=>by have h:2*n=2*m+1:=h;omega
 | .negSucc n,.ofNat m,h=>by have h:2*n+1=2*m:=h;omega
 | .negSucc n,.negSucc m,h=>by have h:2*n+1=2*m+1:=h;rw[show n=m by omega]
def ue:AV->Nat
 | .bool b=>pr 0 b.toNat
 | .int k n=>pr 1 (pr k.ctorIdx (zd n))
 | .str s=>pr 2 (mR (s.data.toList.map UInt8.toNat))
 | .ae n o len=>pr 3 (pr n (pr o len))
 | .nilFunc=>pr 4 0
 | .nilIface=>pr 4 1
 | .ptr none=>pr 4 2
 | .map none=>pr 4 3
 |_=>0
def AV.jK(x:AV):Bool:=match x with
 | .bool _| .int _ _| .str _| .nilFunc| .nilIface| .ptr none| .map none=>true
 | .ae n _ _=>Nat.ble top n
 |_=>false
theorem T2:∀{k l:IntKind},k.ctorIdx=l.ctorIdx->k=l:=by
 intro k l h
 cases k<;>cases l<;>first|rfl|(exact absurd h gm)
theorem bytes_inj{s u:ByteArray}(h:s.data.toList.map UInt8.toNat=u.data.toList.map UInt8.toNat):s=u:=by
  have e:s.data.toList=u.data.toList:=by
    refine List.ext_getElem? fun i=>?_
    have:=congrArg (fun l=>l[i]?) h
    simp only[List.getElem?_map] at this
    cases e1:s.data.toList[i]? with
    | none=>rw[e1] at this;cases e2:u.data.toList[i]? with
      |none=>rfl
      |some y=>rw[e2] at this;cases this
    | some x=>rw[e1] at this;cases e2:u.data.toList[i]? with
      |none=>rw[e2] at this;cases this
      | some y=>
        rw[e2] at this
        simp only[Option.map_some,Option.some.injEq] at this
        rw[UInt8.toNat_inj.1 this]
  obtain⟨⟨a⟩⟩:=s
  obtain⟨⟨b⟩⟩:=u
  have e:a=b:=e
  rw[e]
theorem SS:∀{x y:AV},x.jK=true->y.jK=true->ue x=ue y->x=y:=by
 intro x y hx hy h
 cases x<;>first|(cases hx;done)|skip
 case bool a=>
  cases y<;>first|(cases hy;done)|skip
  case bool b=>
   have:=(eQ (show pr 0 a.toNat=pr 0 b.toNat from h)).2
   cases a<;>cases b<;>first|rfl|(exact absurd this gm)
  case ptr b=>cases b<;>first|(cases hy;done)|(exact absurd (eQ (show pr 0 a.toNat=pr 4 2 from h)).1 gm)
  case map b=>cases b<;>first|(cases hy;done)|(exact absurd (eQ (show pr 0 a.toNat=pr 4 3 from h)).1 gm)
  all_goals exact absurd (eQ (show pr 0 a.toNat=pr _ _ from h)).1 gm
 case int k n=>
  cases y<;>first|(cases hy;done)|skip
  case int k' n'=>
   obtain⟨h3,h4⟩:=eQ (eQ (show pr 1 (pr k.ctorIdx (zd n))=pr 1 (pr k'.ctorIdx (zd n')) from h)).2
   rw[T2 h3,SR h4]
  case ptr b=>cases b<;>first|(cases hy;done)|(exact absurd (eQ (show pr 1 _=pr 4 2 from h)).1 gm)
  case map b=>cases b<;>first|(cases hy;done)|(exact absurd (eQ (show pr 1 _=pr 4 3 from h)).1 gm)
  all_goals exact absurd (eQ (show pr 1 _=pr _ _ from h)).1 gm
 case str u=>
  cases y<;>first|(cases hy;done)|skip
  case str u'=>rw[bytes_inj (ET (eQ (show pr 2 _=pr 2 _ from h)).2)]
  case ptr b=>cases b<;>first|(cases hy;done)|(exact absurd (eQ (show pr 2 _=pr 4 2 from h)).1 gm)
  case map b=>cases b<;>first|(cases hy;done)|(exact absurd (eQ (show pr 2 _=pr 4 3 from h)).1 gm)
  all_goals exact absurd (eQ (show pr 2 _=pr _ _ from h)).1 gm
 case ae n o l=>
  cases y<;>first|(cases hy;done)|skip
  case ae n' o' l'=>
   obtain⟨h3,h4⟩:=eQ (eQ (show pr 3 (pr n (pr o l))=pr 3 (pr n' (pr o' l')) from h)).2
   obtain⟨h5,h6⟩:=eQ h4
   rw[h3,h5,h6]
  case ptr b=>cases b<;>first|(cases hy;done)|(exact absurd (eQ (show pr 3 _=pr 4 2 from h)).1 gm)
  case map b=>cases b<;>first|(cases hy;done)|(exact absurd (eQ (show pr 3 _=pr 4 3 from h)).1 gm)
  all_goals exact absurd (eQ (show pr 3 _=pr _ _ from h)).1 gm
 case nilFunc=>
  cases y<;>first|(cases hy;done)|rfl|skip
  case ptr b=>cases b<;>first|(cases hy;done)|(exact absurd (eQ (show pr 4 0=pr 4 2 from h)).2 gm)
  case map b=>cases b<;>first|(cases hy;done)|(exact absurd (eQ (show pr 4 0=pr 4 3 from h)).2 gm)
  case nilIface=>exact absurd (eQ (show pr 4 0=pr 4 1 from h)).2 gm
  all_goals exact absurd (eQ (show pr 4 0=pr _ _ from h)).1 gm
 case nilIface=>
  cases y<;>first|(cases hy;done)|rfl|skip
  case ptr b=>cases b<;>first|(cases hy;done)|(exact absurd (eQ (show pr 4 1=pr 4 2 from h)).2 gm)
  case map b=>cases b<;>first|(cases hy;done)|(exact absurd (eQ (show pr 4 1=pr 4 3 from h)).2 gm)
  case nilFunc=>exact absurd (eQ (show pr 4 1=pr 4 0 from h)).2 gm
  all_goals exact absurd (eQ (show pr 4 1=pr _ _ from h)).1 gm
 case ptr a=>
  cases a<;>first|(cases hx;done)|skip
  cases y<;>first|(cases hy;done)|skip
  case ptr b=>cases b<;>first|(cases hy;done)|rfl
  case map b=>cases b<;>first|(cases hy;done)|(exact absurd (eQ (show pr 4 2=pr 4 3 from h)).2 gm)
  case nilIface=>exact absurd (eQ (show pr 4 2=pr 4 1 from h)).2 gm
  case nilFunc=>exact absurd (eQ (show pr 4 2=pr 4 0 from h)).2 gm
  all_goals exact absurd (eQ (show pr 4 2=pr _ _ from h)).1 gm
 case map a=>
  cases a<;>first|(cases hx;done)|skip
  cases y<;>first|(cases hy;done)|skip
  case ptr b=>cases b<;>first|(cases hy;done)|(exact absurd (eQ (show pr 4 3=pr 4 2 from h)).2 gm)
  case map b=>cases b<;>first|(cases hy;done)|rfl
  case nilIface=>exact absurd (eQ (show pr 4 3=pr 4 1 from h)).2 gm
  case nilFunc=>exact absurd (eQ (show pr 4 3=pr 4 0 from h)).2 gm
  all_goals exact absurd (eQ (show pr 4 3=pr _ _ from h)).1 gm
theorem Kn:∀{l m:List AV},l.all AV.jK=true->m.all AV.jK=true->l.map ue=m.map ue->l=m
  |[],[],_,_,_=>rfl
  |[],_::_,_,_,h=>by cases h
  |_::_,[],_,_,h=>by cases h
  | x::l,y::m,hx,hy,h=>by
    obtain⟨a1,a2⟩:=and_true.1 (show(x.jK&&l.all AV.jK)=true from hx)
    obtain⟨b1,b2⟩:=and_true.1 (show(y.jK&&m.all AV.jK)=true from hy)
    simp only[List.map_cons,List.cons.injEq] at h
    rw[SS a1 b1 h.1,Kn a2 b2 h.2]
noncomputable section
def nm(cs:List AV):Nat:=top+mR (cs.map ue)
open Classical in
def FU(n:Nat):Option (List AV):=if h:∃cs:List AV,cs.all AV.jK=true/\nm cs=n then some h.choose else none
def aL(enc:α->List AV)(l:List α):AV:=.ae (nm (l.map enc).flatten) 0 l.length
end
theorem dB(cs:List AV):top<=nm cs:=Nat.le_add_right _ _
theorem GF(h:cs.all AV.jK=true):FU (nm cs)=some cs:=by
 have hx:∃ds:List AV,ds.all AV.jK=true/\nm ds=nm cs:=⟨cs,h,rfl⟩
 unfold FU
 rw[dif_pos hx]
 obtain⟨h1,h2⟩:=hx.choose_spec
 exact congrArg some (Kn h1 h (ET (by have h3:top+mR (hx.choose.map ue)=top+mR (cs.map ue):=h2;omega)))
theorem KY(h:x.jK=true):x.ct=true:=by
 cases x<;>first|rfl|(cases h;done)
theorem T3(h:x.jK=true):x.gN=true:=by
 cases x<;>first|rfl|(cases h;done)|skip
 ·rename_i a;cases a with
  |none=>rfl
  |some _=>cases h
 ·exact h
 ·rename_i a;cases a with
  |none=>rfl
  |some _=>cases h
theorem M9(h:cs.all AV.jK=true){off:Nat}(hk:off+k<=cs.length):bM FU (nm cs) off k=some ((cs.drop off).take k):=by
 unfold bM
 rw[GF h]
 simp only[(bH.2 hk:Nat.ble (off+k) cs.length=true)]
structure lv {α:Type} (K:Nat) (enc:α->List AV):Prop where
 len:∀a,(enc a).length=K
 jK:∀a,(enc a).all AV.jK=true
theorem lv.all(h:lv K enc):∀l:List α,(l.map enc).flatten.all AV.jK=true
  |[]=>rfl
  | a::l=>by
    rw[List.map_cons,List.flatten_cons,List.all_append,h.jK a,lv.all h l];rfl
theorem lv.length(h:lv K enc)(l:List α):(l.map enc).flatten.length=l.length*K:=by
 have:=vP (K:=K) (l:=l.map enc) fun c hc=>by obtain⟨a,_,rfl⟩:=List.mem_map.1 hc;exact h.len a
 rw[this,List.length_map]
theorem wM(h:lv K enc){l:List α}{i:Nat}{a:α}(ha:l[i]? =some a)(j k:Nat)(hk:j+k<=K):bM FU (nm (l.map enc).flatten) (i*K+j) k=some (((enc a).drop j).take k):=by
 have hi:=(List.getElem?_eq_some_iff.1 ha).1
 have hle:i*K+K<=(l.map enc).flatten.length:=by
  rw[h.length]
  have:=Nat.mul_le_mul_right K (show i+1<=l.length from hi)
  rw[Nat.add_mul,Nat.one_mul] at this;exact this
 rw[M9 (h.all l) aF]
 have hf:=Ep (l:=l.map enc) (K:=K) (i:=i) (c:=enc a) (fun c hc=>by obtain⟨a,_,rfl⟩:=List.mem_map.1 hc;exact h.len a) (by rw[List.getElem?_map,ha];rfl)
 have hd:((l.map enc).flatten.drop (i*K+j)).take k=((((l.map enc).flatten.drop (i*K)).take K).drop j).take k:=by
  rw[List.drop_take,List.take_take,List.drop_drop,Nat.min_eq_left aF]
 rw[hd,hf]
def pf(aI:Nat)(ρ:Ren):Ren:=fun k=>if k<aI then ρ k else iS ρ k
def Ce(F:Nat->Option (List AV))(ρ:Ren)(w:World):aZ:=⟨fun k=>w.heap.size<=k,F,fun k=>ρ k≠none⟩
theorem BH(ht:aI<=top)(hk:top<=k):pf aI ρ k=ρ k:=by
 unfold pf iS
 rw[if_neg aF,if_pos hk]
noncomputable section
def l7(aI:Nat)(ns:List Nat)(h0:Tr aE)(val:List AV->Option AV):bf->List AV->M AV:=fun _ args=>
 bC (args.all AV.hi) <| (nz aI h0 ns).bind fun _=>bh (val args) fun v=>bC v.hi <| M.pure v
end
theorem Local.l7(aI:Nat)(ns:List Nat)(h0:Tr aE)(val:List AV->Option AV)(call:bf)(args:List AV):Local (l7 aI ns h0 val call args):=
 Local.bC fun _=>Local.bind (Local.nz aI h0 ns) fun _=>Local.bh fun _ _=>Local.bC fun _=>Local.pure _
theorem Y7(ht:aI<=top)(r:Rel B ρ h w)(eF:∀n o,n<top->h0.get n=some o->n∈ns)(Aw:∀n∈ns,n<aI)(a3:∀n∈ns,∃o p,h.get n=some o/\h0.get n=some p/\wH aI o p=true):Rel (Ce B.F ρ w) (pf aI ρ) h0 w:=by
  have iL:∀n o,n<top->h0.get n=some o->o.du=true/\∃b N o',pf aI ρ n=some (b,N)/\w.heap[b]? =some o'/\OR (pf aI ρ) N o o':=by
    intro n o hn ho
    have fZ:=eF n o hn ho
    obtain⟨p1,p2,c2,c3,c4⟩:=a3 n fZ
    rw[ho] at c3;cases c3
    obtain⟨b,N,o',i1,i2,i3,_⟩:=r.is n p1 hn c2
    obtain⟨j1,j2⟩:=Ke c4 i3
    refine⟨j1,b,N,o',?_,i2,j2.mono fun k x e=>?_⟩
    · unfold pf;rw[if_pos (Aw n fZ)];exact i1
    · have e:(if k<aI then ρ k else none)=some x:=e
      unfold pf
      split at e
      · rename_i q;rw[if_pos q];exact e
      · cases e
  refine⟨fun n o hn ho=>?_,fun n m o p b N M hn hm h1 h2 eX _ _=>?_,fun n m es ex left cur hn ho=>?_,fun _ hk=>hk,fun i j m es ex left cur kj mo lJ lM hi _ h1 _=>?_,fun n b sh e=>?_⟩
  · obtain⟨h1,b,N,o',h2,h3,h4⟩:=iL n o hn ho
    exact⟨b,N,o',h2,h3,h4,fun q=>by rw[h1] at q;cases q⟩
  · have e1:=(iL n o hn h1).1
    have e2:=(iL m p hm h2).1
    rw[e1,e2] at eX
    rcases eX with q|q<;>cases q
  · have:=(iL n _ hn ho).1;cases this
  · have:=(iL i _ hi h1).1;cases this
  · rw [BH ht (mG _ _ _)] at e
    obtain⟨_,l,c,e',fr,g1,g2,g3,g4⟩:=r.fz n b sh e
    refine⟨.inl e,l,c,e',fr,g1,g2,fun m o N hm ho hr _=>?_,fun i x hx=>?_⟩
    · rw[(iL m o hm ho).1] at hr;cases hr
    · obtain⟨v,k1,k2,k3⟩:=g4 i x hx
      refine⟨v,k1,VR.mono (fun k y q=>?_) _ _ k2,k3⟩
      unfold iS at q ⊢
      split at q
      · rename_i hk
        rw[if_pos hk,BH ht hk];exact q
      · cases q
def mE(ρ σ:Ren):Ren:=fun k=>if top<=k then σ k else ρ k
theorem WQ{σ:Ren}{h4:Tr aE}{w':World}{a:Nat}(ht:aI<=top)(r:Rel B ρ h w)(q3:Rel (Ce B.F ρ w) σ h4 w')(q4:cU (Ce B.F ρ w) w w')(hle:(pf aI ρ).le σ):
    Ext a a ρ (mE ρ σ)/\um σ (mE ρ σ)/\Rel B (mE ρ σ) h w'/\cU B w w':=by
  have hold:∀k x,top<=k->ρ k=some x->σ k=some x:=fun k x hk e=>hle k x (by rw[BH ht hk];exact e)
  have hl:ρ.le (mE ρ σ):=by
    intro k x e
    unfold mE
    by_cases hk:top<=k
    · rw[if_pos hk];exact hold k x hk e
    · rw[if_neg hk];exact e
  have cV:∀k,k<top->mE ρ σ k=ρ k:=fun k hk=>by unfold mE;rw[if_neg aF]
  have aay:cU B w w':=⟨q4.os,q4.tape,q4.output,q4.size,fun k hk _=>q4.block k hk (by show ¬(w.heap.size<=k);omega)⟩
  have GG:∀b,b<w.heap.size->w'.heap[b]? =w.heap[b]? :=fun b hb=>q4.block b hb (by show ¬(w.heap.size<=b);omega)
  refine⟨⟨hl,fun k hk _=>cV k hk⟩,fun k x hk e=>by unfold mE;rw[if_pos hk];exact e,⟨?_,?_,?_,fun k hk=>r.size k (Nat.le_trans q4.size hk),r.lone,?_⟩,aay⟩
  · intro n o hn ho
    obtain⟨b,N,o',h1,h2,h3,h5⟩:=r.is n o hn ho
    exact⟨b,N,o',(cV n hn).trans h1,(GG b (oQ h2)).trans h2,h3.mono hl,h5⟩
  · intro n m o p b N M hn hm h1 h2 eX e1 e2
    rw[cV n hn] at e1;rw[cV m hm] at e2
    exact r.one n m o p b N M hn hm h1 h2 eX e1 e2
  · intro n m es ex left cur hn ho
    obtain⟨hm,nK,b,N,bm,M,l,ak,seen,h1,h2,h3,h5,h6⟩:=r.iter n m es ex left cur hn ho
    have u:o4 ρ w' n m es ex left cur:=⟨b,N,bm,M,l,ak,seen,h1,h2,(GG b (oQ h3)).trans h3,(GG bm (oQ h5)).trans h5,h6⟩
    exact⟨hm,nK,u.mono hl⟩
  · intro n b sh e
    have e:σ (hn n b sh)≠none:=by unfold mE at e;rw[if_pos (mG _ _ _)] at e;exact e
    obtain⟨g0,l,c,e',fr,g1,g2,_,g4⟩:=q3.fz n b sh e
    have DD:(iS σ).le (iS (mE ρ σ)):=by
      intro k x q
      unfold iS at q ⊢
      split at q
      · rename_i hk
        rw[if_pos hk];unfold mE;rw[if_pos hk];exact q
      · cases q
    have iG:∀i x,l[i]? =some x->∃v,c[sh+i]? =some v/\VR (iS (mE ρ σ)) x v/\x.ct=true:=fun i x hx=>by
      obtain⟨v,k1,k2,k3⟩:=g4 i x hx
      exact⟨v,k1,VR.mono DD _ _ k2,k3⟩
    by_cases q:ρ (hn n b sh)≠none
    · obtain⟨z0,l',c',e2,rl,z1,z2,z3,_⟩:=r.fz n b sh q
      refine⟨z0,l,c,e',fr,g1,g2,fun m o N hm ho hr hb=>?_,iG⟩
      rw[cV m hm] at hb
      exact z3 m o N hm ho hr hb
    · have hb:w.heap.size<=b:=g0.resolve_left q
      refine⟨.inr (r.size b hb),l,c,e',fr,g1,g2,fun m o N hm ho hr jA=>?_,iG⟩
      rw[cV m hm] at jA
      obtain⟨b1,N1,o1,h1,h2,_⟩:=r.is m o hm ho
      rw[jA] at h1;cases h1
      have:=oQ h2
      omega
theorem R5{f:Nat}{val:List AV->Option AV}{s1:AS}(hP:fa P)(ga:P.funcs[f]? =some fn)(gP:fn.body=some body)(ir:(fn.name == "runtime.NumGoroutine")=false)(IU:fb<=aI)(ng:aI<=top)(eF:∀n o,n<top->h0.get n=some o->n∈ns)(Aw:∀n∈ns,n<aI)(nO:∀args v,val args=some v->max fn.ntmps args.length<=top/\∀B':aZ,B'.F=B.F->cM P B' aI (Fin P fn.results.toList fun y _=>y=v) ⟨f,iD args,max fn.ntmps args.length,[.code body],[],none⟩ ⟨h0,aI,0,[],[]⟩){call:bf}{vs:Array Value}(r:Rel B ρ s.h w)(hg:iJ ρ)(h:l7 aI ns h0 val call args s= .ok x s1)(hv:aQ ρ args vs.toList):kL P ((callFunc f vs).run P w) (lN B ρ s s1 w x):=by
 unfold l7 at h
 obtain⟨DD,h1⟩:=dY h
 obtain⟨u,s2,h2,h3⟩:=M.bG h1
 obtain⟨v,h4,h5⟩:=ch h3
 obtain⟨h6,h7⟩:=dY h5
 obtain⟨rfl,rfl⟩:=bW h7
 obtain⟨a1,a2,a3⟩:=Ea h2
 obtain⟨q1,q2⟩:=nO _ _ h4
 have aaz:=Y7 ng r eF Aw (fun n hn=>by obtain⟨_,o,p,h⟩:=a3 n hn;exact⟨o,p,h⟩)
 have fi:bY (⟨h0,aI,0,[],[]⟩:AS):=⟨Nat.zero_le _,ng⟩
 have IV:iJ (pf aI ρ):=fun g xL=>by
  obtain⟨N,e⟩:=hg g xL
  exact⟨N,by unfold pf;rw[if_pos (Nat.lt_of_lt_of_le xL IU)];exact e⟩
 have dL:=cM.calls (B:=Ce B.F ρ w) (s:=⟨h0,aI,0,[],[]⟩) (args:=args) (vs:=vs) hP ga gP q1 (q2 _ rfl) fi aaz IV (fun k k1 k2=>by
   have k1:aI<=k:=k1
   unfold pf iS
   rw[if_neg aF,if_neg aF])
  (AV.M4 (fun k y hk e=>by rw[BH ng hk];exact e) DD hv)
 rw[JE ga gP ir]
 show Calls P f vs w _
 refine dL.mono fun e w'=>?_
 rintro ⟨y,x',s4,rfl,rfl,_,_,σ,e1,e2,e3,e4⟩
 obtain⟨b1,b2,b3,b4⟩:=WQ (a:=s.nx) ng r e3 e4 e1.le
 exact⟨y,rfl,mE ρ σ,by rw[a2];exact b1,AV.NG b2 h6 e2,by rw[a1];exact b3,b4⟩
noncomputable section
def bj(val:List AV->Option AV)(args:List AV):Option AV:=match args.all AV.hi with
  | true=>(val args).bind fun v=>match v.hi with
    |true=>some v
    |false=>none
  |false=>none
abbrev gn:=List (FuncId×(List AV->Option AV))
def kX(aI:Nat)(ns:List Nat)(h0:Tr aE):gn->Sp
 |[]=>fun _=>none
 |p::l=>fun f=>bif Nat.beq f p.1 then some (l7 aI ns h0 p.2) else kX aI ns h0 l f
def zK:gn->FuncId->Option (List AV->Option AV)
 |[]=>fun _=>none
 |p::l=>fun f=>bif Nat.beq f p.1 then some (bj p.2) else zK l f
def O6(P:Program)(aI:Nat)(ns:List Nat)(h0:Tr aE)(L:gn):Env:=⟨P,kX aI ns h0 L,FU,zK L,zB aI h0 ns,zA aI h0 ns,aI,true⟩
def fK(P:Program)(aI:Nat)(ns:List Nat)(h0:Tr aE)(L:gn):Env:=⟨P,kX aI ns h0 L,FU,zK L,zB aI h0 ns,zA aI h0 ns,aI,false⟩
end
theorem l3{val:List AV->Option AV}(h:val args=some v)(ha:args.all AV.hi=true)(hv:v.hi=true):bj val args=some v:=by
 unfold bj
 rw[ha,h]
 simp only[Option.bind_some,hv]
theorem T4{val:List AV->Option AV}(h:bj val args=some v):val args=some v/\args.all AV.hi=true/\v.hi=true:=by
  unfold bj at h
  split at h
  · rename_i ha
    cases e:val args with
    |none=>rw[e] at h;cases h
    | some u=>
      rw[e] at h
      simp only[Option.bind_some] at h
      split at h
      · rename_i hu
        injection h with h;subst h;exact⟨rfl,ha,hu⟩
      · cases h
  · cases h
theorem KZ{val:List AV->Option AV}{call:bf}(h:bj val args=some v)(hc:zB aI h0 ns s=true):l7 aI ns h0 val call args s= .ok v (zA aI h0 ns s):=by
 obtain⟨h1,h2,h3⟩:=T4 h
 unfold l7
 rw[h2,fG,M.dA (F5 hc),h1,dk,h3,fG]
 rfl
theorem FP:∀{L:gn} {g:FuncId} {val:List AV->Option AV},zK L g=some val->∃v0,val=bj v0/\kX aI ns h0 L g=some (l7 aI ns h0 v0)
  |[],g,val,h=>by cases h
  | p::l,g,val,h=>by
    unfold zK at h
    unfold kX
    cases e:Nat.beq g p.1 with
    |true=>rw[e] at h;injection h with h;exact⟨p.2,h.symm,rfl⟩
    |false=>rw[e] at h;exact FP h
theorem tK{L:gn}:(O6 P aI ns h0 L).Ok:=by
 refine⟨fun g val args v s n h1 h2 h3=>?_⟩
 obtain⟨v0,rfl,h4⟩:=FP (aI:=aI) (ns:=ns) (h0:=h0) h1
 show kV P (kX aI ns h0 L) g (bV P (kX aI ns h0 L) FU n) args s=_
 rw[F3 h4]
 exact KZ h2 h3
theorem nA{L:gn}:(fK P aI ns h0 L).Ok:=by
 refine⟨fun g val args v s n h1 h2 h3=>?_⟩
 obtain⟨v0,rfl,h4⟩:=FP (aI:=aI) (ns:=ns) (h0:=h0) h1
 show kV P (kX aI ns h0 L) g (bV P (kX aI ns h0 L) FU n) args s=_
 rw[F3 h4]
 exact KZ h2 h3
theorem Vn:cC P FU (kX aI ns h0 []):=fun _ _=>⟨fun f m h=>(by cases h),fun f m h=>(by cases h)⟩
theorem T5(hP:fa P)(IU:fb<=aI)(ng:aI<=top)(eF:∀n o,n<top->h0.get n=some o->n∈ns)(Aw:∀n∈ns,n<aI){L L':gn}{g:FuncId}{val:List AV->Option AV}(h:cC P FU (kX aI ns h0 L))(h':cC P FU (kX aI ns h0 L'))(ga:P.funcs[g]? =some fn)(gP:fn.body=some body)(ir:(fn.name == "runtime.NumGoroutine")=false)(nO:∀args v,val args=some v->max fn.ntmps args.length<=top/\∀B:aZ,B.F=FU->hJ P B (bV P (kX aI ns h0 L') FU 6)->(∀t a,Local (bV P (kX aI ns h0 L') FU 6 t a))->
   cM P B aI (Fin P fn.results.toList fun y _=>y=v) ⟨g,iD args,max fn.ntmps args.length,[.code body],[],none⟩ ⟨h0,aI,0,[],[]⟩):cC P FU (kX aI ns h0 ((g,val)::L)):=by
 refine(show cC P FU (qX (kX aI ns h0 L) g (l7 aI ns h0 val)) from h.sK (fun call _ args=>Local.l7 _ _ _ _ call args) fun B hB call hc hl args x s s1 ρ w vs fi r hg hf hm hv=>?_)
 refine R5 hP ga gP ir IU ng eF Aw (fun args v e=>?_) r hg hm hv
 obtain⟨q1,q2⟩:=nO args v e
 refine⟨q1,fun B' DE=>?_⟩
 have Au:B'.F=FU:=DE.trans hB
 have aT:=h' B' Au
 have hc:=Ba hP aT Au 6
 exact q2 B' Au hc (rF P aT FU 6)
end Go.Rn
namespace Go.Rn
open Go.RowKit
variable {α:Type} {enc:α->List AV} {l:List α} {K n:Nat} {r:Nat->Nat} {fz:iW} {a v:AV} {args:List AV}
def bt(enc:α->List AV)(K:Nat)(a:AV)(l:List α):Prop:=∃n o,a= .ae n o l.length/\top<=n/\∀(i:Nat) c,l[i]? =some c->bM FU n (o+i*K) K=some (enc c)
theorem bt.gN(h:bt enc K a l):a.gN=true:=by
 obtain⟨n,o,rfl,h1,_⟩:=h
 exact bH.2 h1
theorem bt.hi(h:bt enc K a l):a.hi=true:=by
 have:=h.gN
 obtain⟨n,o,rfl,h1,_⟩:=h
 exact this
theorem bt.aL(he:lv K enc)(l:List α):bt enc K (aL enc l) l:=
 ⟨_,0,rfl,dB _,fun i c hc=>by
  have:=wM he hc 0 K aF
  rw[Nat.zero_add]
  rw[Nat.add_zero,List.drop_zero, ←he.len c,List.take_length] at this
  rw[he.len c] at this
  exact this⟩
theorem bt.inj{m:List α}(nR:∀x y,enc x=enc y->x=y)(h:bt enc K a l)(k:bt enc K a m):l=m:=by
 obtain⟨n,o,rfl,_,h2⟩:=h
 obtain⟨n',o',e,_,k2⟩:=k
 injection e with e1 e2 e3
 subst e1;subst e2
 refine List.ext_getElem? fun i=>?_
 by_cases q:i<l.length
 ·have a1:l[i]? =some l[i]:=List.getElem?_eq_getElem q
  have a2:m[i]? =some (m[i]'aF):=List.getElem?_eq_getElem aF
  have b1:=h2 i _ a1
  have b2:=k2 i _ a2
  rw[b1] at b2;injection b2 with b2
  rw[a1,a2,nR _ _ b2]
 ·rw[List.getElem?_eq_none aF,List.getElem?_eq_none aF]
theorem bt.part{o len:Nat}(h:bt enc K (.ae n o len) l){lo hi:Nat}(h1:lo<=hi)(h2:hi<=len):bt enc K (.ae n (o+lo*K) (hi - lo)) ((l.drop lo).take (hi - lo)):=by
 obtain⟨n',o',e,ht,h3⟩:=h
 injection e with e1 e2 e3
 subst e1;subst e2;subst e3
 have hlen:((l.drop lo).take (hi - lo)).length=hi - lo:=by rw[List.length_take,List.length_drop];omega
 refine⟨n,o+lo*K,by rw[hlen],ht,fun i c hc=>?_⟩
 have iY:i<hi - lo:=by have:=(List.getElem?_eq_some_iff.1 hc).1;omega
 rw[List.getElem?_take_of_lt iY,List.getElem?_drop] at hc
 have:=h3 (lo+i) c hc
 rw[Nat.add_mul] at this
 rw[Nat.add_assoc];exact this
theorem bt.len{o len:Nat}(h:bt enc K (.ae n o len) l):l.length=len/\top<=n/\∀(i:Nat) c,l[i]? =some c->bM FU n (o+i*K) K=some (enc c):=by
 obtain⟨n',o',e,ht,h3⟩:=h
 injection e with e1 e2 e3
 subst e1;subst e2
 exact⟨e3.symm,ht,h3⟩
theorem bt.is(h:bt enc K a l):∃n o,a= .ae n o l.length/\top<=n/\∀(i:Nat) c,l[i]? =some c->bM FU n (o+i*K) K=some (enc c):=h
theorem c9{off:Nat}{cs:List AV}(h:bM FU n off K=some cs)(j m:Nat)(hj:j+m<=K):bM FU n (off+j) m=some ((cs.drop j).take m):=by
  unfold bM at h ⊢
  cases e:FU n with
  |none=>rw[e] at h;cases h
  | some l=>
    rw[e] at h
    simp only at h ⊢
    cases q:Nat.ble (off+K) l.length with
    |false=>rw[q] at h;cases h
    | true=>
      rw[q] at h
      injection h with h
      have hq:=bH.1 q
      rw[(bH.2 aF:Nat.ble (off+j+m) l.length=true)]
      simp only
      rw[←h,List.drop_take,List.take_take,List.drop_drop,Nat.min_eq_left aF]
theorem jI{cap:kT}(hm:(n,nm (l.map enc).flatten,(l.map enc).flatten)∈fz)(hr:∀k,top<=k->r k=k)(hc:(match cap with| .known c=>Nat.ble l.length c| .aX _ _=>true| .lost=>false)=true):jh fz r (.slice (some (n,0)) l.length cap) (aL enc l):=by
 intro ρ kq v Ae hv
 have:∃b N c,ρ n=some (b,N)/\v= .slice (some ⟨b,0,none⟩) l.length c/\l.length<=c:=by
  cases cap with
  |known c=>simp only[VR] at hv;obtain⟨b,N,e,hv⟩:=hv;exact⟨b,N,c,e,hv,bH.1 hc⟩
  |aX lo e0=>simp only[VR] at hv;obtain⟨b,N,c,e,hv,_,h,_⟩:=hv;exact⟨b,N,c,e,hv,h⟩
  |lost=>cases hc
 obtain⟨b,N,c,e,rfl,hle⟩:=this
 have hk:=Ae.2.2 _ hm b N e
 unfold aL
 simp only[VR]
 exact .inr ⟨b,0,c,.inr ⟨dB _,fun z=>hk ((congrArg kq (hr _ (mG _ _ _))).symm.trans z)⟩,rfl,fun _=>hle⟩
theorem l4:jh fz r (.slice none 0 (.known 0)) (aL enc []):=by
 intro ρ kq v _ hv
 simp only[VR] at hv
 obtain⟨rfl,_,_⟩:=hv
 unfold aL
 simp only[VR]
 exact .inl ⟨dB _,rfl,none,0,rfl⟩
theorem mK{o len:Nat}(ht:top<=n)(hr:∀k,top<=k->r k=k):jh fz r (.ae n o len) (.ae n o len):=(aJ.ae (hr n ht) hr).z
theorem FJ(hr:∀k,top<=k->r k=k):jh fz r (aL enc l) (aL enc l):=mK (dB _) hr
theorem rO(he:lv K enc)(hl:l.length*K<=top)(n:Nat)(hn:n<top){o0:List (Nat×Option aE)}(hm:(n,some (aD enc l))∈o0):
  n<top/\FU (nm (l.map enc).flatten)=some (l.map enc).flatten/\∃N t z,(n,some (.cells N t z))∈o0/\∀i x,(l.map enc).flatten[i]? =some x->i<N/\cellAt t z i=some x/\x.ct=true/\x.gN=true:=by
 refine⟨hn,GF (he.all l),_,_,_,hm,fun i x hx=>?_⟩
 have hi:=(List.getElem?_eq_some_iff.1 hx).1
 have hc:=List.all_eq_true.1 (he.all l) x (List.mem_of_getElem? hx)
 exact⟨hi,by rw[Ed (by rw[he.length];exact hl) hi];exact hx,KY hc,T3 hc⟩
def kC(fz:iW)(r:Nat->Nat):List AV->List AV->Prop
 |[],[]=>True
 |x::l,y::m=>jh fz r x y/\kC fz r l m
 |_,_=>False
theorem kC.length:∀{l m:List AV},kC fz r l m->l.length=m.length
 |[],[],_=>rfl
 |_::_,_::_,h=>by simp[kC.length h.2]
 |[],_::_,h=>by cases h
 |_::_,[],h=>by cases h
theorem kC.I:∀{l m:List AV} {i:Nat} {x y:AV},kC fz r l m->l[i]? =some x->m[i]? =some y->jh fz r x y
 |x::l,y::m,0,a,b,h,h1,h2=>by simp at h1 h2;subst h1;subst h2;exact h.1
 |x::l,y::m,i+1,a,b,h,h1,h2=>kC.I h.2 (by simpa using h1) (by simpa using h2)
 |[],[],_,_,_,_,h1,_=>by simp at h1
 |_::_,[],_,_,_,h,_,_=>by cases h
 |[],_::_,_,_,_,h,_,_=>by cases h
theorem iH.cells{l m:List AV}(hl:l.length<=top)(h:kC fz r l m)(h1:m.all AV.ct=true):iH fz r (.cells l.length (Tr.fill l 0 .nil) []) (.cells m.length (Tr.fill m 0 .nil) []):=by
 have hlen:=h.length
 intro ρ kq N o Ae k
 obtain⟨c,e,rfl,k1,k2,k3⟩:=k
 refine⟨c,e,rfl,k1,by omega,fun i hi=>?_⟩
 obtain⟨x,v,a1,a2,a3,a4⟩:=k3 i aF
 have hx:l[i]? =some x:=by
  unfold cellAt at a1
  rw[Tr.rH _ _ _ _ aF,if_pos aF,Nat.sub_zero,List.getElem?_eq_getElem aF] at a1
  rw[List.getElem?_eq_getElem aF]
  exact a1
 have hy:m[i]? =some m[i]:=List.getElem?_eq_getElem hi
 refine⟨m[i],v,?_,?_,a3,h.I hx hy ρ kq v Ae a4⟩
 ·unfold cellAt
  rw[Tr.rH _ _ _ _ aF,if_pos aF,Nat.sub_zero,hy]
 ·exact List.all_eq_true.1 h1 _ (List.getElem_mem hi)
open Classical in
noncomputable def aY(R:List AV->AV->Prop)(args:List AV):Option AV:=if h:∃v,R args v then some h.choose else none
theorem je{R:List AV->AV->Prop}(h:aY R args=some v):R args v:=by
 unfold aY at h
 split at h
 ·rename_i q;injection h with h;rw[←h];exact q.choose_spec
 ·cases h
theorem mF{R:List AV->AV->Prop}(hd:∀args v v',R args v->R args v'->v=v')(h:R args v):aY R args=some v:=by
 unfold aY
 have q:∃v,R args v:=⟨v,h⟩
 rw[dif_pos q,hd _ _ _ q.choose_spec h]
end Go.Rn
namespace Go.Rn
open Go.RowKit
noncomputable section
def eB(x:Int):Int:=((Go.Lib.ctz 32 x.toNat:Nat):Int)
def O7:Tr AV:=Tr.fill (Go.Lib.deBruijn32tab.map fun n:Nat=>AV.int .u8 (n:Int)) 0 .nil
end
end Go.Rn
