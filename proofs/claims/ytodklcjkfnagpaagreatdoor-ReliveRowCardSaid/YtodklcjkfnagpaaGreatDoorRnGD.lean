import Derived.Test.YtodklcjkfnagpaaGreatDoorRnGC
import Derived.ChangeArms
import Derived.ChangeShapes
import Derived.DataReads
import Derived.Test.YtodklcjkfnagpaaGreatDoorRnGB
import Derived.OpenShut
set_option maxRecDepth 100000
set_option maxHeartbeats 8000000
set_option linter.unusedSimpArgs false
set_option linter.unusedVariables false
namespace Go.Rn
open Go.RowKit
noncomputable def uI(n:Nat)(o:Option U):M Unit:=fun s=>
 @AS.rec (fun _=>R Unit) (fun h nx mark rd wr=>
  @Bool.rec (fun _=>R Unit) .bad
   (@Option.rec U (fun _=>R Unit) .bad
    (fun p=> @Bool.rec (fun _=>R Unit)
     (@Bool.rec (fun _=>R Unit) (.ok () ⟨h.put n o,nx,mark,rd,wr⟩) (.ok () ⟨h.put n o,nx,mark,n::rd,n::wr⟩)<|Nat.blt n mark)
     .bad (!p.kQ))
    (h.get n))
   (and (Nat.blt n nx)<|Nat.blt n top)) s
section
variable {P:Program} {B:aC} {ρ:ah} {w:World} {s s1 s2:AS} {Sy:aD}
theorem bp.OA{dO:Nat}(hP:dp P){g:FuncId}{fn:Func}{body:Code}{args:List AV}{vs:Array Value}{R:AV->AS->Prop}(cw:P.funcs[g]? =some fn)(cV:fn.body=some body)(ir:max fn.ntmps args.length<=top)(H:bp P B dO (Fin P fn.results.toList R) ⟨g,bt args,max fn.ntmps args.length,[.code body],[],none⟩ s)(fi:aO s)(r:Rel B ρ s.h w)(hg:dN ρ)(hf:∀k,s.nx<=k->k<top->ρ k=none)(hv:aq ρ args vs.toList):
 Calls P g vs w fun e w'=>∃v x s3,e= .returned v/\R x s3/\aO s3/\∃σ,(∀k,k<dO->k<top->σ k=ρ k)/\(∀k x,top<=k->ρ k=some x->σ k=some x)/\VR σ x v/\Rel B σ s3.h w'/\bh B w w':=by
 intro cs;let b:Frame:={(default:Frame) with fn:=g,kind:=.normal,roundOf:=none};let a:Act:={tmps:=vs++Array.replicate (fn.ntmps - vs.size) undef,defers:=[]};have jY:Frame.enter P g vs .normal=b.atR a [.code body]:=by simp[Frame.enter,Frame.atR,cw,cV,b,a]
 have aW:Fr ρ ⟨g,bt args,max fn.ntmps args.length,[.code body],[],none⟩ b a:=⟨rfl,rfl,trivial,rfl,.cons (hP.code g fn body cw cV) .nil⟩;have aB:At B ρ s (max fn.ntmps args.length) (bt args) w a:=⟨uX hv _ ir,r,hg,ir,fi⟩;obtain⟨fr,j,s2,σ,a',w',⟨x,s3,iq,hR⟩,en,e0,DV,e1,e2,e3,e4,e5,e6,e7,e8⟩:=H ρ w b a cs aW aB hf;have CL:finish P fn.results.toList fr j s2= .ok x s3:=by rw[yy];exact iq
 have pX:aO s2:=e2.bg;obtain⟨hj,u2,s4,rs,h7,h9,hx⟩:=u0 CL;have gf:aO s4:=(Sx.hJ _).bg pX h7;have hH:Leaves j fr.todo:=e7;obtain⟨d1,d2,w2,d3,d4,d5⟩:=sO (P:=P) (fr:=b) (cs:=cs) pX e2.rel e3 h7;obtain⟨f1,f2,us,f3,f4⟩:=sM (P:=P) (w:=w2) e2.tr gf d3 h9;have eN:aO s3:=(Sx.jP P fr.tmps _).bg gf h9;have nh:Steps P (lone (b.atR a' fr.todo) cs w')<|lone {b.atR a' fr.todo with mode:=.returning} cs w':=by
  rcases hj with rfl|rfl
  ·have e:fr.todo=[]:=hH;rw[e];exact .one<|stepR_end rfl
  ·obtain⟨k,e⟩:=hH;rw[e];exact .one<|stepR_ret rfl
 have j9:=d5 {b.atR a' fr.todo with mode:=.returning} cs (by simp) rfl;have iQ:(results fn a'.tmps).run P w2= .ok (eS us) w2:=by
  unfold results;rw[Array.mapM_eq_mapM_toList];simp only[Sem.run_bind,map_eq_pure_bind,Sem.run_pure];refine Eq.trans (congrArg (fun r:Result (List Value)=>(r.andThen fun a w'=>Result.ok a.toArray w').andThen fun a w'=>Result.ok (if h:a.size=1 then a[0] else Value.tuple a) w') f3) ?_;have:∀l:List Value,(Result.ok (if h:l.toArray.size=1 then l.toArray[0] else Value.tuple l.toArray) w2:Result Value)= .ok (eS l) w2:=by
   intro l
   match l with
   |[]=>rfl
   |[v]=>rfl
   |v::v2::l=>simp[eS]
  exact this us
 refine⟨.returned<|eS us,w2,{b.atR a' fr.todo with mode:=.returning,defers:=[]},⟨_,x,s3,rfl,hR,eN,σ,e0,DV,?_⟩,?_,rfl,?_⟩
 ·exact⟨by rw[hx];exact vg f4,by rw[f1];exact d3,e4.trans d4⟩
 ·rw[jY];exact Steps.trans e8<|Steps.trans nh j9
 ·exact⟨rfl,rfl,rfl,fn,cw,iQ⟩
end
abbrev TX:=Nat->AV->List (Nat×U)->Prop
def zP(loc ρ:ah):ah:=fun m=>if top<=m then ρ m else loc m
theorem L6{loc ρ σ:ah}(h:∀m x,top<=m->ρ m=some x->σ m=some x):(zP loc ρ).le<|zP loc σ:=by
 intro k x e;unfold zP at e ⊢;split at e
 ·rename_i q;rw[if_pos q];exact h k x q e
 ·rename_i q;rw[if_neg q];exact e
inductive ni (X:TX) (J:Nat):Nat->AV->ah->World->Nat->(Nat->Prop)->Prop where
 | mk {k:Nat} {v:AV} {ρ:ah} {w:World} {b:Nat} {H:Nat->Prop} (L:List<|Nat×U) (loc:ah) (bl:Nat->Nat) (H1:Nat->Nat->Prop) (N0:Nat)
   (hx:X k v L) (root:loc J=some (b,N0)) (low:∀m,m<J->loc m=none)
   (is:∀m o,(m,o)∈L->∃N o',loc m=some (bl m,N)/\w.heap[bl m]? =some o'/\OR (zP loc ρ) N o o'/\H (bl m))
   (one:∀m n o p,(m,o)∈L->(n,p)∈L->bl m=bl n->m=n)
   (tok:∀m k' v',(m,U.tok k' v')∈L->ni X J k' v' ρ w (bl m) (H1 m))
   (Ic:∀m k' v',(m,U.tok k' v')∈L->H1 m (bl m))
   (sub:∀m k' v',(m,U.tok k' v')∈L->∀x,H1 m x->H x)
   (own:∀m k' v' n o,(m,U.tok k' v')∈L->(n,o)∈L->o.kQ=false->¬H1 m (bl n))
   (apart:∀m k' v' n Jc xC x,(m,U.tok k' v')∈L->(n,U.tok Jc xC)∈L->m≠n->H1 m x->¬H1 n x):ni X J k v ρ w b H
theorem ni.mono{X:TX}{J k:Nat}{v:AV}{ρ:ah}{w:World}{b:Nat}{H:Nat->Prop}(h:ni X J k v ρ w b H):∀{σ:ah} {w':World},(∀m x,top<=m->ρ m=some x->σ m=some x)->(∀x,H x->w'.heap[x]? =w.heap[x]?)->ni X J k v σ w' b H:=by
 induction h with
 |mk L loc bl H1 N0 hx root low is one tok Ic sub own apart ih=>intro σ w' hm hw;refine .mk L loc bl H1 N0 hx root low (fun m o oP=>?_) one (fun m k' v' oP=>ih m k' v' oP hm fun x q=>hw x<|sub m k' v' oP x q) Ic sub own apart;obtain⟨N,o',a1,a2,a3,a4⟩:=is m o oP;exact⟨N,o',a1,(hw _ a4).trans a2,a3.mono<|L6 hm,a4⟩
def Pu(ns:List Nat)(o:U):Prop:=∀(σ:ah) (N:Nat) (o':Obj),OR σ N o o'->OR (fun m=>if top<=m\/m∈ns then σ m else none) N o o'
structure Rv (X:TX) (J:Nat):Prop where
 nm:∀k v L,X k v L->∀p∈L,J<=p.1/\p.1<top/\(p.2.own=true\/p.2.kQ=true)/\Pu (L.map (·.1)) p.2
 root:∀k v L,X k v L->∃o,(J,o)∈L
theorem Gg{n:Nat}:∀{L:List<|Nat×U},(∀p∈L,p.1<n)->∀p∈n9 L,p.1<n
 |[],_,p,hp=>by cases hp
 |a::l,h,p,hp=>by
  rcases List.mem_cons.1 hp with rfl|hp
  ·exact h a List.mem_cons_self
  ·exact Gg (fun q hq=>h q<|List.mem_cons_of_mem _ hq) p hp
end Go.Rn
namespace Go.Rn
open Go.RowKit
noncomputable section
def Qg(J:Nat)(ns:List Nat)(h0:Tr U)(k:Nat)(val:AV->List AV->Option (AV×AV)):aD->List AV->M AV:=fun _ args=>
 match args with
 | .ptr (some (n,0))::rest=>ay (rest.all AV.hi&&Nat.ble J n) <| (fV J h0 ns).bind fun _=>(aY n).bind fun o=>match o with
  | .tok k' v=>ay (Nat.beq k k') <| aA (val v rest) fun p=>ay p.1.hi <| (uI n<|some<|.tok k p.2).bind fun _=>M.pure p.1
  |_=>fail
 |_=>fail
end
def zx(B:aC)(ρ:ah)(w:World)(H:Nat->Prop):aC:=⟨fun x=>w.heap.size<=x\/H x,B.F,fun m=>ρ m≠none,B.inv,B.oA,B.mono⟩
end Go.Rn
namespace Go.Rn
open Go.RowKit
end Go.Rn
namespace Go.Rn
open Go.RowKit
end Go.Rn
namespace Go.Rn
open Go.RowKit
end Go.Rn
namespace Go.Rn
open Go.RowKit
noncomputable section
def Qh(J:Nat)(ns:List Nat)(h0:Tr U)(k:Nat)(val:List AV->Option (Option AV×(AV->AV))):aD->List AV->M AV:=fun _ args=>
 ay (args.all AV.hi) <| (fV J h0 ns).bind fun _=>aA (val args) fun p=>match p.1 with
  |none=>ay (p.2<|.ptr none).hi <| M.pure<|p.2<|.ptr none
  |some v=>(cN<|.tok k v).bind fun n=>M.pure<|p.2<|.ptr<|some (n,0)
end
end Go.Rn
namespace Go.Rn
open Go.RowKit
theorem NC{s:AS}{n:Nat}{o:Option U}{p:U}(h1:Nat.blt n s.nx=true)(h2:s.h.get n=some p)(h3:p.kQ=true)(ht:Nat.blt n top=true):uI n o s= .ok () (fS n o s):=by obtain⟨hh,nx,mark,rd,wr⟩:=s;have e1:(Nat.blt n nx&&Nat.blt n top)=true:=and_true.2 ⟨h1,ht⟩;have e2:hh.get n=some p:=h2;show @Bool.rec (fun _=>R Unit) .bad (@Option.rec U (fun _=>R Unit) .bad (fun p=> @Bool.rec (fun _=>R Unit) (@Bool.rec (fun _=>R Unit) (.ok () ⟨hh.put n o,nx,mark,rd,wr⟩) (.ok () ⟨hh.put n o,nx,mark,n::rd,n::wr⟩)<|Nat.blt n mark) .bad<|!p.kQ)<|hh.get n) (Nat.blt n nx&&Nat.blt n top)=_;rw[e1,e2];show @Bool.rec (fun _=>R Unit) (@Bool.rec (fun _=>R Unit) (.ok () ⟨hh.put n o,nx,mark,rd,wr⟩) (.ok () ⟨hh.put n o,nx,mark,n::rd,n::wr⟩)<|Nat.blt n mark) .bad (!p.kQ)=_;rw[h3];show @Bool.rec (fun _=>R Unit) (.ok () ⟨hh.put n o,nx,mark,rd,wr⟩) (.ok () ⟨hh.put n o,nx,mark,n::rd,n::wr⟩) (Nat.blt n mark)= .ok () (@Bool.rec (fun _=>AS) ⟨hh.put n o,nx,mark,rd,wr⟩ ⟨hh.put n o,nx,mark,n::rd,n::wr⟩<|Nat.blt n mark);cases Nat.blt n mark<;>rfl
noncomputable section
inductive KE where
 |val (v:List AV->Option AV)
 |tok (k:Nat) (v:AV->List AV->Option (AV×AV))
 |new (k:Nat) (v:List AV->Option (Option AV×(AV->AV)))
 |raw (m:Nat->List Nat->Tr U->aD->List AV->M AV)
abbrev bZ:=List<|FuncId×KE
def KE.m(J:Nat)(ns:List Nat)(h0:Tr U):KE->aD->List AV->M AV
 | .val v=>kN J ns h0 v
 | .tok k v=>Qg J ns h0 k v
 | .new k v=>Qh J ns h0 k v
 | .raw m=>m J ns h0
def ed(J:Nat)(ns:List Nat)(h0:Tr U):bZ->Sp
 |[]=>fun _=>none
 |p::l=>fun f=>bif Nat.beq f p.1 then some (p.2.m J ns h0) else ed J ns h0 l f
def Dl(val:AV->List AV->Option (AV×AV))(v:AV)(rest:List AV):Option<|AV×AV:=match rest.all AV.hi with
 |true=>(val v rest).bind fun p=>match p.1.hi with
  |true=>some p
  |false=>none
 |false=>none
def Dm(val:List AV->Option (Option AV×(AV->AV)))(args:List AV):Option<|Option AV×(AV->AV):=match args.all AV.hi with
 |true=>(val args).bind fun p=>match p.1 with
  |none=>match (p.2<|.ptr none).hi with
   |true=>some p
   |false=>none
  |some _=>some p
 |false=>none
def tR:bZ->FuncId->Option KE
 |[]=>fun _=>none
 |p::l=>fun f=>bif Nat.beq f p.1 then some p.2 else tR l f
def KE.v1:KE->Option (List AV->Option AV)
 | .val v=>some<|jD v
 |_=>none
def KE.v2:KE->Option (Nat×(AV->List AV->Option (AV×AV)))
 | .tok k v=>some (k,Dl v)
 |_=>none
def KE.v3:KE->Option (Nat×(List AV->Option (Option AV×(AV->AV))))
 | .new k v=>some (k,Dm v)
 |_=>none
def zQ{α β:Type}(o:Option α)(f:α->Option β):Option β:=match o with
 |some a=>f a
 |none=>none
def zR(P:Program)(J:Nat)(ns:List Nat)(h0:Tr U)(L:bZ)(lo:Nat)(fg:Bool):Env:=⟨P,ed J ns h0 L,FU,fun g=>zQ (tR L g) KE.v1,fun _=>false,wP J h0 ns,kU J h0 ns,lo,fg,fun g=>zQ (tR L g) KE.v2,fun g=>zQ (tR L g) KE.v3,J⟩
end
theorem yK{J:Nat}{ns:List Nat}{h0:Tr U}:∀{L:bZ} {g:FuncId} {e:KE},tR L g=some e->ed J ns h0 L g=some (e.m J ns h0)
 |[],g,e,h=>by cases h
 |p::l,g,e,h=>by
  unfold tR at h;unfold ed;cases q:Nat.beq g p.1 with
  |true=>rw[q] at h;injection h with h;rw[h];rfl
  |false=>rw[q] at h;exact yK h
theorem BI{α β:Type}{o:Option α}{f:α->Option β}{b:β}(h:zQ o f=some b):∃a,o=some a/\f a=some b:=by
 cases o with
 |none=>cases h
 |some a=>exact⟨a,rfl,h⟩
theorem tv{P:Program}{J:Nat}{ns:List Nat}{h0:Tr U}{L:bZ}{lo:Nat}{fg:Bool}:(zR P J ns h0 L lo fg).Ok:=by
 refine⟨fun g val args v s n h1 h2 h3=>?_,fun g q m v rest y v' s n h1 h2 h3 h4 h5 h6 h7=>?_,fun g q args v res s n h1 h2 h3 h4=>?_,fun g h=>(by cases h)⟩
 ·obtain⟨e,k1,k2⟩:=BI h1;have k3:=yK (J:=J) (ns:=ns) (h0:=h0) k1;cases e with
  |val v0=>
   injection k2 with k2;subst k2
   show gg P (ed J ns h0 L) g (br P (ed J ns h0 L) FU n) args s=_;rw[qY k3];exact L5 (Sy:=br P (ed J ns h0 L) FU n) h2 h3
  |tok k v0=>cases k2
  |new k v0=>cases k2
  |raw m0=>cases k2
 ·obtain⟨e,k1,k2⟩:=BI h1;have k3:=yK (J:=J) (ns:=ns) (h0:=h0) k1;cases e with
  |val v0=>cases k2
  |new k v0=>cases k2
  |raw m0=>cases k2
  |tok k v0=>
   injection k2 with k2;subst k2
   show gg P (ed J ns h0 L) g (br P (ed J ns h0 L) FU n) (.ptr (some (m,0))::rest) s=_;rw[qY k3];have h7:Dl v0 v rest=some (y,v'):=h7;unfold Dl at h7;cases e1:rest.all AV.hi with
   |false=>rw[e1] at h7;cases h7
   |true=>
    rw[e1] at h7;cases e2:v0 v rest with
    |none=>rw[e2] at h7;cases h7
    |some p=>
     rw[e2] at h7;have h7:(match p.1.hi with|true=>some p|false=>none)=some (y,v'):=h7;cases e3:p.1.hi with
     |false=>rw[e3] at h7;cases h7
     |true=>
      rw[e3] at h7;injection h7 with h7
      subst h7;show(ay (rest.all AV.hi&&Nat.ble J m) <| (fV J h0 ns).bind fun _=>(aY m).bind fun o=>match o with
       | .tok k' v=>ay (Nat.beq k k') <| aA (v0 v rest) fun p=>ay p.1.hi <| (uI m<|some<|.tok k p.2).bind fun _=>M.pure p.1
       |_=>fail) s=_
      have h3:Nat.ble J m=true:=h3;have h4:Nat.blt m (kU J h0 ns s).nx=true:=h4;have h6:(kU J h0 ns s).h.get m=some (.tok k v):=h6;rw[e1,h3,(show(true&&true)=true from rfl),bC,M.bo<|vQ h2,M.bo<|jV h4 h6];show(ay (Nat.beq k k) <| aA (v0 v rest) fun p=>ay p.1.hi <| (uI m<|some<|.tok k p.2).bind fun _=>M.pure p.1) (aV m<|kU J h0 ns s)=_;rw[cj.2 rfl,bC,e2,aP,e3,bC,M.bo<|NC (p:=.tok k v) (by rw[(gk m _).2.1];exact h4) (by rw[(gk m _).1];exact h6) rfl h5];rfl
 ·obtain⟨e,k1,k2⟩:=BI h1;have k3:=yK (J:=J) (ns:=ns) (h0:=h0) k1;cases e with
  |val v0=>cases k2
  |tok k v0=>cases k2
  |raw m0=>cases k2
  |new k v0=>
   injection k2 with k2;subst k2
   show gg P (ed J ns h0 L) g (br P (ed J ns h0 L) FU n) args s=_;rw[qY k3];have h4:Dm v0 args=some (v,res):=h4;unfold Dm at h4;cases e1:args.all AV.hi with
   |false=>rw[e1] at h4;cases h4
   |true=>
    rw[e1] at h4;cases e2:v0 args with
    |none=>rw[e2] at h4;cases h4
    |some p=>
     obtain⟨st,r⟩:=p;rw[e2] at h4;show(ay (args.all AV.hi) <| (fV J h0 ns).bind fun _=>aA (v0 args) fun p=>match p.1 with
      |none=>ay (p.2<|.ptr none).hi <| M.pure (p.2<|.ptr none)
      |some v=>(cN<|.tok k v).bind fun n=>M.pure<|p.2<|.ptr<|some (n,0)) s=_
     rw[e1,bC,M.bo<|vQ h2,e2,aP];cases st with
     |none=>
      have h4:(match (r<|.ptr none).hi with|true=>some ((none:Option AV),r)|false=>none)=some (v,res):=h4;cases e3:(r<|.ptr none).hi with
      |false=>rw[e3] at h4;cases h4
      |true=>
       rw[e3] at h4;injection h4 with h4
       injection h4 with h5 h6
       subst h5;subst h6;show ay true (M.pure<|r<|.ptr none) _=_;rw[bC];rfl
     |some v1=>
      have h4:some (some v1,r)=some (v,res):=h4;injection h4 with h4
      injection h4 with h5 h6
      subst h5;subst h6;show((cN<|.tok k v1).bind fun n=>M.pure<|r<|.ptr<|some (n,0)) _=_;have h3:Nat.blt (kU J h0 ns s).nx top=true:=h3;rw[M.bo<|BR<|(blt_eq _ _).mp h3];rfl
end Go.Rn
namespace Go.Rn
open Go.RowKit
theorem Kx{P:Program}{B:aC}{f J:Nat}{ns:List Nat}{h0:Tr U}{val:List AV->Option AV}{fn:Func}{body:Code}{ρ:ah}{w:World}{s s1:AS}(hP:dp P)(cw:P.funcs[f]? =some fn)(cV:fn.body=some body)(dX:(fn.name == "runtime.NumGoroutine")=false)(oQ:fw<=J)(fP:J<=top)(fp:∀n o,n<top->h0.get n=some o->n∈ns)(ga:∀n∈ns,n<J)(gF:∀args v,val args=some v->max fn.ntmps args.length<=top/\∀B':aC,B'.F=B.F->B'.inv=B.inv->bp P B' J (Fin P fn.results.toList fun y _=>y=v) ⟨f,bt args,max fn.ntmps args.length,[.code body],[],none⟩ ⟨h0,J,0,[],[]⟩){Sy:aD}{args:List AV}{x:AV}{vs:Array Value}(r:Rel B ρ s.h w)(hg:dN ρ)(h:kN J ns h0 val Sy args s= .ok x s1)(hv:aq ρ args vs.toList):fm P ((callFunc f vs).run P w)<|fM B ρ s s1 w x:=by
 unfold kN at h;obtain⟨fE,h1⟩:=bM h;obtain⟨u,s2,h2,h3⟩:=M.aI h1;obtain⟨v,h4,h5⟩:=aX h3;obtain⟨h6,h7⟩:=bM h5;obtain⟨rfl,rfl⟩:=aM h7;obtain⟨a1,a2,a3⟩:=ya h2;obtain⟨q1,q2⟩:=gF _ _ h4;have uh:=CW fP r fp ga (fun n hn=>by obtain⟨_,o,p,h⟩:=a3 n hn;exact⟨o,p,h⟩);have fi:aO (⟨h0,J,0,[],[]⟩:AS):=⟨Nat.zero_le _,fP⟩;have D1:dN<|gG J ρ:=fun g lB=>by obtain⟨N,e⟩:=hg g lB;exact⟨N,by unfold gG;rw[if_pos<|Nat.lt_of_lt_of_le lB oQ];exact e⟩
 have bd:=bp.calls (B:=v7 B ρ w) (s:=⟨h0,J,0,[],[]⟩) (args:=args) (vs:=vs) hP cw cV q1 (q2 _ rfl rfl) fi uh D1 (fun k k1 k2=>by
  have k1:J<=k:=k1;unfold gG dU;rw[if_neg (by omega),if_neg<|by omega])
  (AV.Ch (fun k y hk e=>by rw[tu fP hk];exact e) fE hv)
 rw[AI cw cV dX];show Calls P f vs w _;refine bd.mono fun e w'=>?_;rintro ⟨y,x',s4,rfl,rfl,_,_,σ,e1,e2,e3,e4⟩;obtain⟨b1,b2,b3,b4⟩:=HI (a:=s.nx) fP r e3 e4 e1.le;exact⟨y,rfl,du ρ σ,by rw[a2];exact b1,AV.tP b2 h6 e2,by rw[a1];exact b3,b4⟩
def gR(X:TX)(J:Nat)(P:Program)(sp:Sp):Prop:=∀B:aC,B.F=FU->B.inv=ni X J->zJ P B sp
theorem gR.lq{X:TX}{J:Nat}{P:Program}{sp:Sp}{g:FuncId}{m:aD->List AV->M AV}(h:gR X J P sp)(hl:∀Sy:aD,(∀t a,Sx<|Sy t a)->∀args,Sx<|m Sy args)(hs:∀B:aC,B.F=FU->B.inv=ni X J->∀Sy:aD,dm P B Sy->(∀t a,Sx<|Sy t a)->∀(args:List AV) (x:AV) (s s1:AS) (ρ:ah) (w:World) (vs:Array Value),aO s->Rel B ρ s.h w->dN ρ->bH s.nx s1.nx ρ->
 m Sy args s= .ok x s1->aq ρ args vs.toList->fm P ((callFunc g vs).run P w) (fM B ρ s s1 w x)):gR X J P<|ue sp g m:=by
 intro B hB hT;refine⟨fun f m' e Sy iC args=>?_,fun f m' e Sy hc iC args x s s1 ρ w vs fi r hg hf hm hv=>?_⟩
 ·rcases FD e with⟨_,rfl⟩|e
  ·exact hl Sy iC args
  ·exact(h B hB hT).loc f m' e Sy iC args
 ·rcases FD e with⟨rfl,rfl⟩|e
  ·exact hs B hB hT Sy hc iC args x s s1 ρ w vs fi r hg hf hm hv
  ·exact(h B hB hT).xy f m' e Sy hc iC args x s s1 ρ w vs fi r hg hf hm hv
section
variable {X:TX} {P:Program} {J:Nat} {ns:List Nat} {h0:Tr U} {kn:List<|Nat×Option U} {L L':bZ} {g k:Nat} {fn:Func} {body:Code}
theorem gE:gR X J P<|ed J ns h0 []:=fun _ _ _=>⟨fun f m h=>(by cases h),fun f m h=>(by cases h)⟩
def zS(X:TX)(P:Program)(J:Nat)(ns:List Nat)(h0:Tr U)(L:bZ)(B:aC):Prop:=B.F=FU/\B.inv=ni X J/\dm P B (br P (ed J ns h0 L) FU 6)/\∀t a,Sx<|br P (ed J ns h0 L) FU 6 t a
theorem Dn(hP:dp P)(h':gR X J P<|ed J ns h0 L){B:aC}(h1:B.F=FU)(h2:B.inv=ni X J):zS X P J ns h0 L B:=⟨h1,h2,F5 hP (h' B h1 h2) h1 6,sS P (h' B h1 h2) FU 6⟩
theorem ND(hP:dp P)(oQ:fw<=J)(fP:J<=top)(fp:∀n o,n<top->h0.get n=some o->n∈ns)(ga:∀n∈ns,n<J){val:List AV->Option AV}(h:gR X J P<|ed J ns h0 L)(h':gR X J P<|ed J ns h0 L')(cw:P.funcs[g]? =some fn)(cV:fn.body=some body)(dX:(fn.name == "runtime.NumGoroutine")=false)(gF:∀args v,val args=some v->max fn.ntmps args.length<=top/\∀B:aC,zS X P J ns h0 L' B->
 bp P B J (Fin P fn.results.toList fun y _=>y=v) ⟨g,bt args,max fn.ntmps args.length,[.code body],[],none⟩ ⟨h0,J,0,[],[]⟩):gR X J P<|ed J ns h0<|(g,.val val)::L:=by
 refine(show gR X J P (ue (ed J ns h0 L) g<|kN J ns h0 val) from h.lq (fun Sy _ args=>Sx.kN _ _ _ _ Sy args) fun B hB hT Sy hc hl args x s s1 ρ w vs fi r hg hf hm hv=>?_);refine Kx hP cw cV dX oQ fP fp ga (fun args v e=>?_) r hg hm hv;obtain⟨q1,q2⟩:=gF args v e;exact⟨q1,fun B' D2 D3=>q2 B'<|Dn hP h' (D2.trans hB)<|D3.trans hT⟩
end
end Go.Rn
namespace Go.Rn
open Go.RowKit
abbrev Vw:=List<|Nat×Nat×U
def tS(L:Vw)(m:Nat):Option Nat:=(L.find? fun p=>Nat.beq p.1 m).map fun p=>p.2.1
def jE(J:Nat)(ρ:ah)(L:Vw):ah:=fun m=>if m<J then ρ m else if top<=m then ρ m else match tS L m with
 |some n=>ρ n
 |none=>none
def rk(L:Vw):List<|Nat×U:=L.map fun p=>(p.1,p.2.2)
theorem L7{L:Vw}(fn:∀p∈L,∀q∈L,p.1=q.1->p=q){p:Nat×Nat×U}(hp:p∈L):tS L p.1=some p.2.1:=by
 unfold tS;cases e:L.find? fun q=>Nat.beq q.1 p.1 with
 |none=>exact absurd (List.find?_eq_none.1 e p hp) (by simp)
 |some q=>have h1:=List.mem_of_find?_eq_some e;have h2:=List.find?_some e;have h3:q.1=p.1:=Nat.eq_of_beq_eq_true h2;rw[fn q h1 p hp h3];rfl
theorem L8{L:Vw}{m n:Nat}(h:tS L m=some n):∃p∈L,p.1=m/\p.2.1=n:=by
 unfold tS at h;cases e:L.find? fun q=>Nat.beq q.1 m with
 |none=>rw[e] at h;cases h
 |some q=>rw[e] at h;have h2:=List.find?_some e;refine⟨q,List.mem_of_find?_eq_some e,Nat.eq_of_beq_eq_true h2,?_⟩;injection h
theorem vJ{J:Nat}{ρ:ah}{L:Vw}(ht:J<=top){m:Nat}(hm:top<=m):jE J ρ L m=ρ m:=by unfold jE;rw[if_neg (by omega),if_pos hm]
theorem B3{J:Nat}{ρ:ah}{L:Vw}{m:Nat}(hm:m<J):jE J ρ L m=ρ m:=by unfold jE;rw[if_pos hm]
theorem L9{J:Nat}{ρ:ah}{L:Vw}{m:Nat}(h1:J<=m)(h2:m<top)(h3:∀p∈L,p.1≠m):jE J ρ L m=none:=by
 unfold jE;rw[if_neg (by omega),if_neg<|by omega];cases e:tS L m with
 |none=>rfl
 |some n=>obtain⟨p,hp,e1,_⟩:=L8 e;exact absurd e1<|h3 p hp
end Go.Rn
namespace Go.Rn
open Go.RowKit
structure xD (J:Nat) (ρ:ah) (h:Tr U) (L:Vw):Prop where
 nm:∀p∈L,J<=p.1/\p.1<top/\p.2.1<top
 fn:∀p∈L,∀q∈L,p.1=q.1->p=q
 inj:∀p∈L,∀q∈L,p.2.1=q.2.1->p=q
 is:∀p∈L,∃o,h.get p.2.1=some o/\((o.own=true/\p.2.2.own=true/\∀N o',OR ρ N o o'->OR (jE J ρ L) N p.2.2 o')\/∃k v,o= .tok k v/\p.2.2= .tok k v)
def wH(ρ:ah)(dC:Nat->Nat->Prop)(L:Vw)(x:Nat):Prop:=(∃p∈L,p.2.2.bN=false/\∃N,ρ p.2.1=some (x,N))\/∃p∈L,p.2.2.kQ=true/\dC p.2.1 x
theorem xD.nA{J:Nat}{ρ:ah}{h:Tr U}{L:Vw}(V:xD J ρ h L){p:Nat×Nat×U}(hp:p∈L):jE J ρ L p.1=ρ p.2.1:=by obtain⟨q1,q2,_⟩:=V.nm p hp;unfold jE;rw[if_neg (by omega),if_neg (by omega),L7 V.fn hp]
def Dp(B:aC)(ρ:ah)(h:Tr U)(w:World)(dC:Nat->Nat->Prop):Prop:=(∀n k v,n<top->h.get n=some (.tok k v)->∃b N,ρ n=some (b,N)/\B.inv k v ρ w b (dC n)/\dC n b/\∀x,dC n x->(x<w.heap.size/\B.oA<=x)/\B.may x/\iz ρ h x/\∀j sh,ρ (hn j x sh)=none)/\∀n m x k v k' v',n<top->m<top->h.get n=some (.tok k v)->h.get m=some (.tok k' v')->n≠m->dC n x->¬dC m x
theorem Pv{J:Nat}{B:aC}{ρ:ah}{w:World}{h h0:Tr U}{ns:List Nat}{kn:List<|Nat×Option U}{L:Vw}{dC:Nat->Nat->Prop}(ht:J<=top)(r:Rel B ρ h w)(T:Dp B ρ h w dC)(fp:∀n o,n<top->h0.get n=some o->n∈ns)(ga:∀n∈ns,n<J)(nz:∀n o,(n,some o)∈kn->h0.get n=some o)(uJ:∀p∈kn,p.1<top)(a3:∀n∈ns,∃o p,h.get n=some o/\h0.get n=some p/\mT J o p=true)(V:xD J ρ h L):Rel (zx B ρ w<|wH ρ dC L) (jE J ρ L) (jA<|kn++n9 (rk L)) w:=by
 have r0:=CW ht r fp ga a3;obtain⟨t1,t2⟩:=T;have xE:(gG J ρ).le<|jE J ρ L:=by
  intro m x e;unfold gG at e;split at e
  ·rename_i q;rw[B3 q];exact e
  ·unfold dU at e;split at e
   ·rename_i q;rw[vJ ht q];exact e
   ·cases e
 have Jd:∀m o,(m,o)∈rk L->∃p∈L,p.1=m/\p.2.2=o:=fun m o hm=>by
  obtain⟨p,hp,e⟩:=List.mem_map.1 hm;injection e with e1 e2
  exact⟨p,hp,e1,e2⟩
 have ch:∀p∈kn++n9 (rk L),p.1<top:=fun p hp=>by
  rcases List.mem_append.1 hp with hp|hp
  ·exact uJ p hp
  ·refine Gg (fun q hq=>?_) p hp;obtain⟨p,hp,e1,_⟩:=Jd q.1 q.2 hq;rw[←e1];exact(V.nm p hp).2.1
 have I:∀m o,(jA<|kn++n9 (rk L)).get m=some o->(m∈ns/\h0.get m=some o/\o.jy=true)\/∃p∈L,p.1=m/\p.2.2=o:=fun m o hg=>by
  rcases List.mem_append.1 (o6 ch hg) with q|q
  ·have q2:=nz m o q;have eM:=fp m o (uJ _ q) q2;obtain⟨p1,p2,_,c3,c4⟩:=a3 m eM;rw[q2] at c3;cases c3;refine .inl ⟨eM,q2,?_⟩;unfold mT at c4;split at c4<;>first|rfl|cases c4
  ·exact .inr<|Jd m o<|F8 q
 have me:∀p∈L,p.2.2.bN=false->∃o,h.get p.2.1=some o/\o.bN=false:=fun p hp e=>by
  obtain⟨o,g1,⟨g2,_⟩|⟨k,v,_,g2⟩⟩:=V.is p hp
  ·exact⟨o,g1,(U.qm g2).2⟩
  ·rw[g2] at e;cases e
 have kX:∀p∈L,p.2.2.kQ=true->∃k v,h.get p.2.1=some (.tok k v)/\p.2.2= .tok k v:=fun p hp e=>by
  obtain⟨o,g1,⟨_,g2,_⟩|⟨k,v,rfl,g2⟩⟩:=V.is p hp
  ·generalize p.2.2=q at e g2;cases q<;>first|(cases e;done)|cases g2
  ·exact⟨k,v,g1,g2⟩
 have OB:∀p∈L,p.2.2.jy=true->False:=fun p hp e=>by
  obtain⟨o,g1,⟨_,g2,_⟩|⟨k,v,_,g2⟩⟩:=V.is p hp
  ·generalize p.2.2=q at e g2;cases q<;>first|(cases e;done)|cases g2
  ·rw[g2] at e;cases e
 have D4:∀m N x,m∈ns->jE J ρ L m=some (x,N)->x<B.oA/\¬wH ρ dC L x:=fun m N x q1 e=>by
  rw[B3<|ga m q1] at e;obtain⟨p1,p2,c2,c3,c4⟩:=a3 m q1;have eZ:m<top:=Nat.lt_of_lt_of_le (ga m q1) ht;obtain⟨b',N',e1,e2⟩:=r.tk.1.2 m p1 eZ c2<|AX c4;rw[e] at e1;cases e1;refine⟨e2,?_⟩;rintro (⟨p,hp,ho,M,e3⟩|⟨p,hp,ho,e3⟩)
  ·obtain⟨o,g1,g2⟩:=me p hp ho;have:=r.one m p.2.1 p1 o x N M eZ (V.nm p hp).2.2 c2 g1 (.inr g2) e e3;rw[←this,c2] at g1;cases g1;rw[U.gO<|AX c4] at g2;cases g2
  ·obtain⟨k,v,g1,_⟩:=kX p hp ho;obtain⟨_,_,_,_,_,f⟩:=t1 _ k v (V.nm p hp).2.2 g1;have:=(f x e3).1.2;omega
 have OC:∀j x sh,ρ (hn j x sh)≠none->¬wH ρ dC L x:=fun j x sh e=>by
  obtain⟨_,_,_,_,_,_,_,z3,_⟩:=r.fz j x sh e;rintro (⟨p,hp,ho,M,e3⟩|⟨p,hp,ho,e3⟩)
  ·obtain⟨o,g1,g2⟩:=me p hp ho;exact z3 p.2.1 o M (V.nm p hp).2.2 g1 g2 e3
  ·obtain⟨k,v,g1,_⟩:=kX p hp ho;obtain⟨_,_,_,_,_,f⟩:=t1 _ k v (V.nm p hp).2.2 g1;exact e<|(f x e3).2.2.2 j sh
 refine⟨fun m o hm hg=>?_,fun m n o p x N M hm iD hg kr b8 e1 e2=>?_,fun m i es ex left cur hm hg=>?_,fun x hx=>.inl hx,fun i j m es ex left cur dD eW eJ eL hi _ hg _=>?_,fun j x sh e=>?_,?_⟩
 ·rcases I m o hg with⟨q1,q3,q4⟩|⟨p,hp,rfl,rfl⟩
  ·obtain⟨b',N',o',e1,e2,e3,_⟩:=r0.is m o hm q3;exact⟨b',N',o',xE _ _ e1,e2,e3.mono xE,fun z=>by rw[U.gO q4] at z;cases z⟩
  ·obtain⟨o,g1,g2⟩:=V.is p hp;obtain⟨b',N',o',e1,e2,e3,_⟩:=r.is p.2.1 o (V.nm p hp).2.2 g1;rcases g2 with⟨_,_,g3⟩|⟨k,v,_,g3⟩
   ·exact⟨b',N',o',(V.nA hp).trans e1,e2,g3 _ _ e3,fun z=>.inr<|.inl ⟨p,hp,z,N',e1⟩⟩
   ·rw[g3];exact⟨b',N',o',(V.nA hp).trans e1,e2,trivial,fun z=>by cases z⟩
 ·rcases I m o hg with⟨q1,q3,q4⟩|⟨p1,gh,rfl,rfl⟩
  ·rcases I n p kr with⟨z1,z3,z4⟩|⟨p2,dt,rfl,rfl⟩
   ·rcases b8 with y|y
    ·rw[U.gO q4] at y;cases y
    ·rw[U.gO z4] at y;cases y
   ·rw[V.nA dt] at e2;rcases b8 with y|y
    ·rw[U.gO q4] at y;cases y
    ·exact absurd (.inl ⟨p2,dt,y,M,e2⟩) (D4 m N x q1 e1).2
  ·rw[V.nA gh] at e1;rcases I n p kr with⟨z1,z3,z4⟩|⟨p2,dt,rfl,rfl⟩
   ·rcases b8 with y|y
    ·exact absurd (.inl ⟨p1,gh,y,N,e1⟩) (D4 n M x z1 e2).2
    ·rw[U.gO z4] at y;cases y
   ·rw[V.nA dt] at e2;obtain⟨o1,g1,_⟩:=V.is p1 gh;obtain⟨o2,f1,_⟩:=V.is p2 dt;have Qi:o1.bN=false\/o2.bN=false:=b8.imp (fun y=>by
     obtain⟨o,k1,k2⟩:=me p1 gh y;rw[g1] at k1;cases k1;exact k2) (fun y=>by
     obtain⟨o,k1,k2⟩:=me p2 dt y;rw[f1] at k1;cases k1;exact k2)
    have:=r.one p1.2.1 p2.2.1 o1 o2 x N M (V.nm p1 gh).2.2 (V.nm p2 dt).2.2 g1 f1 Qi e1 e2;rw[V.inj p1 gh p2 dt this]
 ·rcases I m _ hg with⟨_,_,q4⟩|⟨p,hp,_,e⟩
  ·cases q4
  ·obtain⟨_,_,⟨_,g2,_⟩|⟨k,v,_,g2⟩⟩:=V.is p hp
   ·rw[e] at g2;cases g2
   ·rw[e] at g2;cases g2
 ·rcases I i _ hg with⟨_,_,q4⟩|⟨p,hp,_,e⟩
  ·cases q4
  ·obtain⟨_,_,⟨_,g2,_⟩|⟨k,v,_,g2⟩⟩:=V.is p hp
   ·rw[e] at g2;cases g2
   ·rw[e] at g2;cases g2
 ·rw[vJ ht<|eR _ _ _] at e;obtain⟨g0,l,c,e',fr,g1,g2,g3,g4⟩:=r0.fz j x sh (by rw[tu ht<|eR _ _ _];exact e);refine⟨.inl e,l,c,e',fr,g1,g2,fun m o N hm hg bY hr=>?_,fun i y hy=>?_⟩
  ·rcases I m o hg with⟨_,_,q4⟩|⟨p,hp,rfl,rfl⟩
   ·rw[U.gO q4] at bY;cases bY
   ·rw[V.nA hp] at hr;exact OC j x sh e<|.inl ⟨p,hp,bY,N,hr⟩
  ·obtain⟨v',k1,k2,k3⟩:=g4 i y hy;refine⟨v',k1,VR.mono (fun i z q=>?_) _ _ k2,k3⟩;unfold dU at q ⊢;split at q
   ·rename_i hk;rw[if_pos hk];exact xE _ _ q
   ·cases q
 ·let H':Nat->Nat->Prop:=fun m x=>∃p∈L,p.1=m/\dC p.2.1 x;have D5:∀p∈L,H' p.1=dC p.2.1:=fun p hp=>funext fun x=>propext ⟨fun⟨q,hq,e1,e2⟩=>by rw[V.fn q hq p hp e1] at e2;exact e2,fun e=>⟨p,hp,rfl,e⟩⟩;refine⟨⟨r.tk.1.1,fun m o hm hg hf=>?_⟩,H',fun m k' v' hm hg=>?_,fun m n x k' v' Jc xC hm iD hg kr bO Rw Rx=>?_⟩
  ·rcases I m o hg with⟨q1,q3,q4⟩|⟨p,hp,rfl,rfl⟩
   ·obtain⟨b',N',o',e1,e2,e3,_⟩:=r0.is m o hm q3;exact⟨b',N',xE _ _ e1,(D4 m N' b' q1<|xE _ _ e1).1⟩
   ·exact(OB p hp hf).elim
  ·rcases I m _ hg with⟨_,_,q4⟩|⟨p,hp,rfl,e⟩
   ·cases q4
   ·obtain⟨k,v,g1,g2⟩:=kX p hp (by rw[e];rfl);rw[e] at g2;cases g2;obtain⟨b,N,f1,f2,f3,f4⟩:=t1 _ _ _ (V.nm p hp).2.2 g1;refine⟨b,N,(V.nA hp).trans f1,?_,by rw[D5 p hp];exact f3,fun x hx=>?_⟩
    ·rw[D5 p hp];exact B.mono f2 (fun i y hi q=>by rw[vJ ht hi];exact q) fun _ _=>rfl
    ·rw[D5 p hp] at hx;obtain⟨c1,c2,c3,c4⟩:=f4 x hx;refine⟨c1,.inr<|.inr ⟨p,hp,by rw[e];rfl,hx⟩,fun n o N iD kr bY hr=>?_,fun j sh=>by rw[vJ ht<|eR _ _ _];exact c4 j sh⟩;rcases I n o kr with⟨_,_,q4⟩|⟨p2,dt,rfl,rfl⟩
     ·rw[U.gO q4] at bY;cases bY
     ·rw[V.nA dt] at hr;obtain⟨o2,k1,k2⟩:=me p2 dt bY;exact c3 p2.2.1 o2 N (V.nm p2 dt).2.2 k1 k2 hr
  ·obtain⟨p1,gh,y1,z1⟩:=Rw;obtain⟨p2,dt,y2,z2⟩:=Rx;rcases I m _ hg with⟨_,_,q4⟩|⟨q1,Ad,e1,e2⟩
   ·cases q4
   ·rcases I n _ kr with⟨_,_,q4⟩|⟨q2,xk,e3,e4⟩
    ·cases q4
    ·have:=V.fn p1 gh q1 Ad<|y1.trans e1.symm;subst this;have:=V.fn p2 dt q2 xk<|y2.trans e3.symm;subst this;obtain⟨k1,v1,g1,_⟩:=kX p1 gh (by rw[e2];rfl);obtain⟨k2,v2,g2,_⟩:=kX p2 dt (by rw[e4];rfl);exact t2 _ _ x _ _ _ _ (V.nm p1 gh).2.2 (V.nm p2 dt).2.2 g1 g2 (fun q=>bO<|by rw[←y1, ←y2,V.inj p1 gh p2 dt q]) z1 z2
end Go.Rn
namespace Go.Rn
open Go.RowKit
theorem OD{J a:Nat}{B:aC}{ρ σ:ah}{w w':World}{h h4 h':Tr U}{L:Vw}{L2:List<|Nat×U}{dC:Nat->Nat->Prop}(r:Rel B ρ h w)(T:Dp B ρ h w dC)(V:xD J ρ h L)(q3:Rel (zx B ρ w<|wH ρ dC L) σ h4 w')(q4:bh (zx B ρ w<|wH ρ dC L) w w')(v8:∀p∈L,σ p.1=ρ p.2.1)(xF:∀m x,top<=m->ρ m=some x->σ m=some x)(h2:∀n q,(n,q)∈L2->∃p∈L,p.2.1=n/\∃o1,h4.get p.1=some o1/\((q.own=true/\p.2.2.own=true/\∀N o',OR σ N o1 o'->OR (du ρ σ) N q o')\/∃k v v0,o1= .tok k v/\q= .tok k v/\p.2.2= .tok k v0))(h3:∀p∈L,p.2.2.bN=false->∃o1,h4.get p.1=some o1/\o1.bN=false)(hh:∀k,k<top->(∃q,(k,q)∈L2/\h'.get k=some q)\/((∀q∈L,q.2.1≠k)/\h'.get k=h.get k)):
 Ext a a ρ (du ρ σ)/\iT σ (du ρ σ)/\Rel B (du ρ σ) h' w'/\bh B w w':=by
 obtain⟨t1,t2⟩:=T;have hl:ρ.le<|du ρ σ:=by
  intro k x e;unfold du;by_cases hk:top<=k
  ·rw[if_pos hk];exact xF k x hk e
  ·rw[if_neg hk];exact e
 have ch:∀k,k<top->du ρ σ k=ρ k:=fun k hk=>by unfold du;rw[if_neg<|by omega]
 have fE:∀k,top<=k->du ρ σ k=σ k:=fun k hk=>by unfold du;rw[if_pos hk]
 have me:∀p∈L,p.2.2.bN=false->∃o,h.get p.2.1=some o/\o.bN=false/\o.own=true:=fun p hp e=>by
  obtain⟨o,g1,⟨g2,_⟩|⟨k,v,_,g2⟩⟩:=V.is p hp
  ·exact⟨o,g1,(U.qm g2).2,g2⟩
  ·rw[g2] at e;cases e
 have kX:∀p∈L,p.2.2.kQ=true->∃k v,h.get p.2.1=some (.tok k v)/\p.2.2= .tok k v:=fun p hp e=>by
  obtain⟨o,g1,⟨_,g2,_⟩|⟨k,v,rfl,g2⟩⟩:=V.is p hp
  ·generalize p.2.2=q at e g2;cases q<;>first|(cases e;done)|cases g2
  ·exact⟨k,v,g1,g2⟩
 have zT:∀x,wH ρ dC L x->B.may x:=fun x hx=>by
  rcases hx with⟨p,hp,ho,N,e⟩|⟨p,hp,ho,e⟩
  ·obtain⟨o,g1,g2,_⟩:=me p hp ho;obtain⟨x1,N1,_,e1,_,_,e3⟩:=r.is p.2.1 o (V.nm p hp).2.2 g1;rw[e] at e1;cases e1;exact e3 g2
  ·obtain⟨k,v,g1,_⟩:=kX p hp ho;obtain⟨_,_,_,_,_,f⟩:=t1 _ k v (V.nm p hp).2.2 g1;exact(f x e).2.1
 have wD:bh B w w':=⟨q4.os,q4.tape,q4.output,q4.size,fun x hx hm=>q4.block x hx fun z=>by
  rcases z with z|z
  ·have z:w.heap.size<=x:=z;omega
  ·exact hm<|zT x z⟩
 have l9:∀x,x<w.heap.size->¬wH ρ dC L x->w'.heap[x]? =w.heap[x]? :=fun x hx hm=>q4.block x hx fun z=>by
  rcases z with z|z
  ·have z:w.heap.size<=x:=z;omega
  ·exact hm z
 have cs:∀m o,m<top->h'.get m=some o->(∃p∈L,p.2.1=m/\∃o1,h4.get p.1=some o1/\((o.own=true/\p.2.2.own=true/\∀N o',OR σ N o1 o'->OR (du ρ σ) N o o')\/∃k v v0,o1= .tok k v/\o= .tok k v/\p.2.2= .tok k v0))\/((∀q∈L,q.2.1≠m)/\h.get m=some o):=fun m o hm ho=>by
  rcases hh m hm with⟨q,e1,e2⟩|⟨e1,e2⟩
  ·rw[ho] at e2;cases e2;exact .inl<|h2 m o e1
  ·exact .inr ⟨e1,by rw[←e2];exact ho⟩
 have bD:∀m o,m<top->h'.get m=some o->∃q,h.get m=some q/\(o.bN=false->q.bN=false):=fun m o hm ho=>by
  rcases cs m o hm ho with⟨p,hp,rfl,o1,g1,⟨y1,y2,_⟩|⟨k,v,v0,_,y1,_⟩⟩|⟨_,e⟩
  ·obtain⟨q,g1,g2,_⟩:=me p hp (U.qm y2).2;exact⟨q,g1,fun _=>g2⟩
  ·obtain⟨q,g1,_⟩:=V.is p hp;exact⟨q,g1,fun z=>by rw[y1] at z;cases z⟩
  ·exact⟨o,e,id⟩
 have other:∀m o x M,m<top->(∀q∈L,q.2.1≠m)->h.get m=some o->ρ m=some (x,M)->¬wH ρ dC L x:=fun m o x M hm bO ho e=>by
  rintro (⟨p,hp,gh,N,e1⟩|⟨p,hp,gh,e1⟩)
  ·obtain⟨q,g1,g2,_⟩:=me p hp gh;exact bO p hp<|r.one p.2.1 m q o x N M (V.nm p hp).2.2 hm g1 ho (.inl g2) e1 e
  ·obtain⟨k,v,g1,_⟩:=kX p hp gh;obtain⟨_,_,_,_,_,f⟩:=t1 _ k v (V.nm p hp).2.2 g1;obtain⟨⟨_,c1⟩,_,c3,_⟩:=f x e1;cases bY:o.bN with
   |false=>exact c3 m o M hm ho bY e
   |true=>
    by_cases hf:o.jy=true
    ·obtain⟨b',N',k1,k2⟩:=r.tk.1.2 m o hm ho hf;rw[e] at k1;cases k1;omega
    ·cases o<;>first|(cases bY;done)|(exact hf rfl)|skip
     rename_i k' xC;obtain⟨b',N',k1,_,k3,_⟩:=t1 m k' xC hm ho;rw[e] at k1;cases k1;exact t2 _ m x k v k' xC (V.nm p hp).2.2 hm g1 ho (bO p hp) e1 k3
 have An:∀x,iz ρ h x->iz (du ρ σ) h' x:=fun x hn m o M hm ho bY e=>by obtain⟨q,g1,g2⟩:=bD m o hm ho;rw[ch m hm] at e;exact hn m q M hm g1 (g2 bY) e
 have IF:∀x,w.heap.size<=x->iz (du ρ σ) h' x:=fun x hx m o M hm ho bY e=>by obtain⟨q,g1,_⟩:=bD m o hm ho;rw[ch m hm] at e;obtain⟨b1,N1,o1,e1,e2,_⟩:=r.is m q hm g1;rw[e] at e1;cases e1;have:=ff e2;omega
 have Pw:∀p∈L,∀o,h.get p.2.1=some o->o.own=true\/o.kQ=true:=fun p hp o ho=>by
  obtain⟨q,g1,⟨g2,_⟩|⟨k,v,g2,_⟩⟩:=V.is p hp
  ·rw[ho] at g1;cases g1;exact .inl g2
  ·rw[ho,g2] at g1;cases g1;exact .inr rfl
 have Ie:∀i,h.get i=some .ep->∀q∈L,q.2.1≠i:=fun i e q hq z=>by rcases Pw q hq .ep (by rw[z];exact e) with y|y<;>cases y
 obtain⟨⟨_,_⟩,Hq,s1,s2⟩:=q3.tk;refine⟨⟨hl,fun k hk _=>ch k hk⟩,fun k x hk e=>by rw[fE k hk];exact e,⟨fun m o hm ho=>?_,fun m m2 o p x M M2 hm mn ho hp b8 e1 e2=>?_,fun m i es ex left cur hm ho=>?_,fun x hx=>r.size x<|Nat.le_trans q4.size hx,fun i j m es ex left cur dD eW eJ eL hi hj ho hp=>?_,fun j x sh e=>?_,?_⟩,wD⟩
 ·rcases cs m o hm ho with⟨p,hp,rfl,o1,g1,⟨y1,y2,g2⟩|⟨k,v,v0,y1,y2,y3⟩⟩|⟨bO,e⟩
  ·obtain⟨b1,N1,o',e1,e2,e3,_⟩:=q3.is p.1 o1 (V.nm p hp).2.1 g1;rw[v8 p hp] at e1;exact⟨b1,N1,o',(ch _ hm).trans e1,e2,g2 _ _ e3,fun _=>zT b1<|.inl ⟨p,hp,(U.qm y2).2,N1,e1⟩⟩
  ·obtain⟨b1,N1,o',e1,e2,e3,_⟩:=q3.is p.1 o1 (V.nm p hp).2.1 g1;rw[v8 p hp] at e1;rw[y2];exact⟨b1,N1,o',(ch _ hm).trans e1,e2,trivial,fun z=>by cases z⟩
  ·obtain⟨b1,N1,o1,e1,e2,e3,e4⟩:=r.is m o hm e;exact⟨b1,N1,o1,(ch m hm).trans e1,(l9 b1 (ff e2)<|other m o b1 N1 hm bO e e1).trans e2,e3.mono hl,e4⟩
 ·rw[ch m hm] at e1;rw[ch m2 mn] at e2;obtain⟨o1,a1,a2⟩:=bD m o hm ho;obtain⟨o2,a3,a4⟩:=bD m2 p mn hp;exact r.one m m2 o1 o2 x M M2 hm mn a1 a3 (b8.imp a2 a4) e1 e2
 ·rcases cs m _ hm ho with⟨p,hp,_,_,_,⟨y1,_⟩|⟨k,v,v0,_,y2,_⟩⟩|⟨bO,e⟩
  ·cases y1
  ·cases y2
  ·obtain⟨hi,dy,b1,N1,bm,M,l,aK,seen,u1,u2,u3,u4,u5⟩:=r.iter m i es ex left cur hm e;have u:hZ ρ w' m i es ex left cur:=⟨b1,N1,bm,M,l,aK,seen,u1,u2,(l9 b1 (ff u3)<|other m _ b1 N1 hm bO e u1).trans u3,(l9 bm (ff u4)<|other i _ bm M hi (Ie i dy) dy u2).trans u4,u5⟩;refine⟨hi,?_,u.mono hl⟩;rcases hh i hi with⟨q,f1,f2⟩|⟨_,f2⟩
   ·obtain⟨p,hp,f3,_⟩:=h2 i q f1;exact absurd f3<|Ie i dy p hp
   ·rw[f2];exact dy
 ·rcases cs i _ hi ho with⟨p,hp,_,_,_,⟨y1,_⟩|⟨k,v,v0,_,y2,_⟩⟩|⟨_,e⟩
  ·cases y1
  ·cases y2
  ·rcases cs j _ hj hp with⟨p,hp,_,_,_,⟨y1,_⟩|⟨k,v,v0,_,y2,_⟩⟩|⟨_,e'⟩
   ·cases y1
   ·cases y2
   ·exact r.lone i j m es ex left cur dD eW eJ eL hi hj e e'
 ·rw[fE _<|eR _ _ _] at e;obtain⟨g0,l,c,e',fr,g1,g2,gn,g4⟩:=q3.fz j x sh e;have jt:∀i y,l[i]? =some y->∃v,c[sh+i]? =some v/\VR (dU<|du ρ σ) y v/\y.bB=true:=fun i y hy=>by
   obtain⟨v,k1,k2,k3⟩:=g4 i y hy;refine⟨v,k1,VR.mono (fun z u q=>?_) _ _ k2,k3⟩;unfold dU at q ⊢;split at q
   ·rename_i hk;rw[if_pos hk,fE z hk];exact q
   ·cases q
  by_cases q:ρ (hn j x sh)≠none
  ·obtain⟨z0,l',c',e2,fC,z1,z2,z3,_⟩:=r.fz j x sh q;exact⟨z0,l,c,e',fr,g1,g2,An x z3,jt⟩
  ·rcases g0.resolve_left q with z|z
   ·have z:w.heap.size<=x:=z;exact⟨.inr<|r.size x z,l,c,e',fr,g1,g2,IF x z,jt⟩
   ·refine⟨.inr<|zT x z,l,c,e',fr,g1,g2,?_,jt⟩;rcases z with⟨p,hp,ho,N,e1⟩|⟨p,hp,ho,e1⟩
    ·obtain⟨o1,f1,f2⟩:=h3 p hp ho;exact absurd ((v8 p hp).trans e1)<|gn p.1 o1 N (V.nm p hp).2.1 f1 f2
    ·obtain⟨k,v,k1,_⟩:=kX p hp ho;obtain⟨_,_,_,_,_,f⟩:=t1 _ k v (V.nm p hp).2.2 k1;exact An x (f x e1).2.2.1
 ·let H':Nat->Nat->Prop:=fun m x=>(∃p∈L,p.2.1=m/\Hq p.1 x)\/((∀p∈L,p.2.1≠m)/\dC m x);have uK:∀p∈L,H' p.2.1=Hq p.1:=fun p hp=>funext fun x=>propext ⟨fun z=>by
   rcases z with⟨q,hq,e1,e2⟩|⟨e1,_⟩
   ·rw[V.inj q hq p hp e1] at e2;exact e2
   ·exact absurd rfl<|e1 p hp,fun z=>.inl ⟨p,hp,rfl,z⟩⟩
  have uL:∀m,(∀p∈L,p.2.1≠m)->H' m=dC m:=fun m hm=>funext fun x=>propext ⟨fun z=>by
   rcases z with⟨q,hq,e1,_⟩|⟨_,z⟩
   ·exact absurd e1 (hm q hq)
   ·exact z,fun z=>.inr ⟨hm,z⟩⟩
  have D6:∀p∈L,∀k v,h4.get p.1=some (.tok k v)->∀x,Hq p.1 x->x<w'.heap.size/\(w.heap.size<=x\/wH ρ dC L x)/\∀j sh,σ (hn j x sh)=none:=fun p hp k v hg x hx=>by obtain⟨_,_,_,_,_,f⟩:=s1 p.1 k v (V.nm p hp).2.1 hg;obtain⟨⟨c1,_⟩,c2,_,c4⟩:=f x hx;exact⟨c1,c2,c4⟩
  have zy:∀m k v,m<top->h'.get m=some (.tok k v)->(∃p∈L,p.2.1=m/\h4.get p.1=some (.tok k v)/\∃v0,p.2.2= .tok k v0)\/((∀q∈L,q.2.1≠m)/\h.get m=some (.tok k v)):=fun m k v hm ho=>by
   rcases cs m _ hm ho with⟨p,hp,e0,o1,g1,⟨y1,_⟩|⟨k',v',v0,y1,y2,y3⟩⟩|z
   ·cases y1
   ·cases y2;exact .inl ⟨p,hp,e0,by rw[g1,y1],v0,y3⟩
   ·exact .inr z
  have sep:∀m k v,m<top->(∀q∈L,q.2.1≠m)->h.get m=some (.tok k v)->∀x,dC m x->(w.heap.size<=x\/wH ρ dC L x)->False:=fun m k1 v1 hm bO hg x hx z=>by
   obtain⟨_,_,_,_,_,f4⟩:=t1 m k1 v1 hm hg;rcases z with z|⟨p,hp,su,N,e1⟩|⟨p,hp,su,e1⟩
   ·have:=(f4 x hx).1.1;omega
   ·obtain⟨q,g1,g2,_⟩:=me p hp su;exact(f4 x hx).2.2.1 p.2.1 q N (V.nm p hp).2.2 g1 g2 e1
   ·obtain⟨k,v,g1,_⟩:=kX p hp su;exact t2 _ m x k v k1 v1 (V.nm p hp).2.2 hm g1 hg (bO p hp) e1 hx
  refine⟨⟨Nat.le_trans r.tk.1.1 q4.size,fun m o hm ho hf=>?_⟩,H',fun m k1 v1 hm ho=>?_,fun m m2 x k1 v1 k2 v2 hm mn ho hp bO z1 z2=>?_⟩
  ·rcases cs m o hm ho with⟨p,hp,_,_,_,⟨y1,_⟩|⟨k,v,v0,_,y2,_⟩⟩|⟨_,e⟩
   ·cases o<;>first|(cases hf;done)|cases y1
   ·rw[y2] at hf;cases hf
   ·obtain⟨b1,N1,e1,e2⟩:=r.tk.1.2 m o hm e hf;exact⟨b1,N1,(ch m hm).trans e1,e2⟩
  ·rcases zy m k1 v1 hm ho with⟨p,hp,rfl,hg,v0,Je⟩|⟨bO,hg⟩
   ·obtain⟨b1,N1,f1,f2,f3,f4⟩:=s1 p.1 k1 v1 (V.nm p hp).2.1 hg;have S6:p.2.2.kQ=true:=by rw[Je];rfl
    refine⟨b1,N1,(ch _ hm).trans<|(v8 p hp).symm.trans f1,?_,by rw[uK p hp];exact f3,fun x hx=>?_⟩
    ·rw[uK p hp];exact B.mono f2 (fun i y hi q=>by rw[fE i hi];exact q) fun _ _=>rfl
    ·rw[uK p hp] at hx;obtain⟨c1,c2,c4⟩:=D6 p hp k1 v1 hg x hx;obtain⟨⟨_,Qj⟩,_,c3,_⟩:=f4 x hx;refine⟨⟨c1,Qj⟩,?_,?_,fun j sh=>by rw[fE _<|eR _ _ _];exact c4 j sh⟩
     ·rcases c2 with y|y
      ·exact r.size x y
      ·exact zT x y
     ·rcases c2 with y|y
      ·exact IF x y
      ·rcases y with⟨p2,dt,D7,N2,e2⟩|⟨p2,dt,D7,e2⟩
       ·obtain⟨o1,Ry,xg⟩:=h3 p2 dt D7;exact absurd ((v8 p2 dt).trans e2)<|c3 p2.1 o1 N2 (V.nm p2 dt).2.1 Ry xg
       ·obtain⟨k,v,g1,_⟩:=kX p2 dt D7;obtain⟨_,_,_,_,_,f⟩:=t1 _ k v (V.nm p2 dt).2.2 g1;exact An x (f x e2).2.2.1
   ·obtain⟨b1,N1,f1,f2,f3,f4⟩:=t1 m k1 v1 hm hg;have IG:∀x,dC m x->¬wH ρ dC L x:=fun x hx z=>by
     rcases z with⟨p,hp,su,N,e1⟩|⟨p,hp,su,e1⟩
     ·obtain⟨q,g1,g2,_⟩:=me p hp su;exact(f4 x hx).2.2.1 p.2.1 q N (V.nm p hp).2.2 g1 g2 e1
     ·obtain⟨k,v,g1,_⟩:=kX p hp su;exact t2 _ m x k v k1 v1 (V.nm p hp).2.2 hm g1 hg (bO p hp) e1 hx
    refine⟨b1,N1,(ch m hm).trans f1,?_,by rw[uL m bO];exact f3,fun x hx=>?_⟩
    ·rw[uL m bO];exact B.mono f2 (fun i y _ e=>hl _ _ e) fun x hx=>l9 x (f4 x hx).1.1<|IG x hx
    ·rw[uL m bO] at hx;obtain⟨⟨c1,cl⟩,c2,c3,c4⟩:=f4 x hx;refine⟨⟨Nat.lt_of_lt_of_le c1 q4.size,cl⟩,c2,An x c3,fun j sh=>Classical.byContradiction fun z=>?_⟩;rw[fE _<|eR _ _ _] at z;rcases(q3.fz j x sh z).1 with y|y
     ·exact y<|c4 j sh
     ·rcases y with y|y
      ·have y:w.heap.size<=x:=y;omega
      ·exact IG x hx y
  ·rcases zy m k1 v1 hm ho with⟨p1,gh,rfl,hg,v0,Je⟩|⟨IH,hg⟩
   ·rw[uK p1 gh] at z1;obtain⟨c1,c2,_⟩:=D6 p1 gh k1 v1 hg x z1;rcases zy m2 k2 v2 mn hp with⟨p2,dt,rfl,sw,Rz,Qk⟩|⟨zU,sw⟩
    ·rw[uK p2 dt] at z2;exact s2 p1.1 p2.1 x k1 v1 k2 v2 (V.nm p1 gh).2.1 (V.nm p2 dt).2.1 hg sw (fun q=>bO<|by rw[V.fn p1 gh p2 dt q]) z1 z2
    ·rw[uL m2 zU] at z2;exact sep m2 k2 v2 mn zU sw x z2 c2
   ·rw[uL m IH] at z1;rcases zy m2 k2 v2 mn hp with⟨p2,dt,rfl,sw,Rz,Qk⟩|⟨zU,sw⟩
    ·rw[uK p2 dt] at z2;exact sep m k1 v1 hm IH hg x z1 (D6 p2 dt k2 v2 sw x z2).2.1
    ·rw[uL m2 zU] at z2;exact t2 m m2 x k1 v1 k2 v2 hm mn hg sw bO z1 z2
end Go.Rn
namespace Go.Rn
open Go.RowKit
noncomputable section
open Classical in
def mY{β:Type}(c:Prop)(m:M β):M β:=ay (decide c) m
end
open Classical in
theorem Ma{β:Type}{c:Prop}{m:M β}{s s1:AS}{b:β}(h:mY c m s= .ok b s1):c/\m s= .ok b s1:=by unfold mY at h;obtain⟨h1,h2⟩:=bM h;exact⟨of_decide_eq_true h1,h2⟩
theorem GL{β:Type}{c:Prop}{m:M β}(h:c):mY c m=m:=by unfold mY;simp only[h,decide_true];rfl
theorem Sx.mY{β:Type}{c:Prop}{m:M β}(h:Sx m):Sx<|mY c m:=Sx.ay fun _=>h
end Go.Rn
namespace Go.Rn
open Go.RowKit
noncomputable section
end
section
variable {X:TX} {P:Program} {J:Nat} {ns:List Nat} {h0:Tr U} {kn:List<|Nat×Option U} {L L':bZ} {g k:Nat} {fn:Func} {body:Code}
end
end Go.Rn
namespace Go.Rn
open Go.RowKit
noncomputable def au(cs:List AV):U:=.cells cs.length (Tr.fill cs 0 .nil) []
theorem MX{a b:List AV}(ha:a.length<=top)(hb:b.length<=top)(h:au a=au b):a=b:=by
 unfold au at h;injection h with h1 h2 _
 refine List.ext_getElem? fun i=>?_;by_cases q:i<a.length
 ·have e1:=oW ha q;have e2:=oW hb (show i<b.length by omega);rw[←e1, ←e2,h2]
 ·rw[List.getElem?_eq_none (by omega),List.getElem?_eq_none<|by omega]
open Classical in
noncomputable def rowOf(o:U):Option<|List AV:=if h:∃cs,cs.length<=top/\o=au cs then some h.choose else none
theorem Mb{o:U}{cs:List AV}(h:rowOf o=some cs):o=au cs/\cs.length<=top:=by
 unfold rowOf at h;split at h
 ·rename_i q;injection h with h;rw[←h];exact⟨q.choose_spec.2,q.choose_spec.1⟩
 ·cases h
theorem Mc{cs:List AV}(h:cs.length<=top):rowOf (au cs)=some cs:=by unfold rowOf;have q:∃uM,uM.length<=top/\au cs=au uM:=⟨cs,h,rfl⟩;rw[dif_pos q];exact congrArg some (MX h q.choose_spec.1 q.choose_spec.2).symm
noncomputable section
end
theorem NF{ρ σ:ah}{N:Nat}{a b:List AV}{o':Obj}(ha:a.length<=top)(hb:b.length<=top)(hl:b.length=a.length)(hc:∀(i:Nat) (x y:AV),a[i]? =some x->b[i]? =some y->(x.bB=true->y.bB=true)/\∀v,VR ρ x v->VR σ y v)(h:OR ρ N (au a) o'):OR σ N (au b) o':=by unfold au at h ⊢;simp only[OR] at h ⊢;obtain⟨c,e,rfl,h1,h2,h3⟩:=h;refine⟨c,e,rfl,h1,by omega,fun i hi=>?_⟩;obtain⟨x,v,k1,k2,k3,k4⟩:=h3 i (by omega);rw[oW ha<|by omega] at k1;have eD:b[i]? =some (b[i]'hi):=List.getElem?_eq_getElem hi;obtain⟨q1,q2⟩:=hc i x _ k1 eD;exact⟨_,v,by rw[oW hb hi];exact eD,q1 k2,k3,q2 v k4⟩
theorem Ig{ρ σ:ah}{N:Nat}{a:List AV}{o':Obj}(eY:iT ρ σ)(ha:a.length<=top)(hh:a.all AV.bV=true)(h:OR ρ N (au a) o'):OR σ N (au a) o':=NF ha ha rfl (fun i x y e1 e2=>by rw[e1] at e2;cases e2;exact⟨id,fun v k=>AV.tE eY (List.all_eq_true.1 hh x<|List.mem_of_getElem? e1) k⟩) h
section
variable {X:TX} {P:Program} {J kp k:Nat} {ns:List Nat} {h0:Tr U} {kn:List<|Nat×Option U} {L L':bZ} {g:Nat} {fn:Func} {body:Code}
end
noncomputable section
end
end Go.Rn
namespace Go.Rn
open Go.RowKit
def ui(x:AV):List Nat:=match x with
 | .ptr (some (n,_))=>[n]
 | .slice (some (n,_)) _ _=>[n]
 | .func (.func _) [] [.ptr (some (n,_))]=>[n]
 |_=>[]
def iF(f:Nat->Nat)(x:AV):AV:=match x with
 | .ptr (some (n,o))=>.ptr<|some (f n,o)
 | .slice (some (n,o)) l c=>.slice (some (f n,o)) l c
 | .func (.func g) [] [.ptr (some (n,o))]=>.func (.func g) [] [.ptr<|some (f n,o)]
 |x=>x
def fT(x:AV):Bool:=or x.hi<|not (ui x).isEmpty
def cS(args:List AV):List Nat:=(args.map ui).flatten
def iU(N:List Nat)(n:Nat):Nat:=match N with
 |[]=>0
 |m::N=>if n=m then 0 else iU N n+1
noncomputable section
def lU:List Nat->M (List<|List AV)
 |[]=>M.pure []
 |n::l=>(aY n).bind fun o=>aA (rowOf o) fun cs=>ay (and (cs.all AV.bV)<|Nat.blt n top) <| (lU l).bind fun r=>M.pure<|cs::r
def kY(c:Option<|List AV)(aw:List<|List AV):List<|List AV:=match c,aw with
 |some c,_::r=>c::r
 |_,r=>r
def l5(N:List Nat)(p:AV×Option (List AV)):M AV:=match p.2,N with
 |none,_=>M.pure p.1
 |some c,n::_=>ay (and (c.all AV.bV)<|Nat.ble c.length top) <| (aZ n<|some<|au c).bind fun _=>M.pure p.1
 |some _,[]=>fail
def eU(val:List AV->List (List AV)->Option (AV×Option (List AV)))(J:Nat)(ns:List Nat)(h0:Tr U):aD->List AV->M AV:=fun _ args=>ay (and (args.all fT)<|Nat.ble (cS args).length 2) <| mY (cS args).Nodup <| (fV J h0 ns).bind fun _=>(lU<|cS args).bind fun aw=>aA (val (args.map<|iF fun n=>J+iU (cS args) n) aw) fun p=>ay p.1.hi <| l5 (cS args) p
end
theorem Sx.lU:∀l,Sx (lU l)
 |[]=>Sx.pure _
 |_::l=>Sx.bind (Sx.aY _) fun _=>Sx.aA fun _ _=>Sx.ay fun _=>Sx.bind (Sx.lU l) fun _=>Sx.pure _
theorem Sx.l5(N:List Nat)(p:AV×Option (List AV)):Sx<|l5 N p:=by
 unfold Rn.l5;split
 ·exact Sx.pure _
 ·exact Sx.ay fun _=>Sx.bind (Sx.aZ _ _) fun _=>Sx.pure _
 ·exact Sx.fail
theorem Sx.eU(val:List AV->List (List AV)->Option (AV×Option (List AV)))(J:Nat)(ns:List Nat)(h0:Tr U)(Sy:aD)(args:List AV):Sx<|eU val J ns h0 Sy args:=Sx.ay fun _=>Sx.mY <| Sx.bind (Sx.fV J h0 ns) fun _=>Sx.bind (Sx.lU _) fun _=>Sx.aA fun _ _=>Sx.ay fun _=>Sx.l5 _ _
noncomputable def uN:Nat->List Nat->List (List AV)->Vw
 |k,n::N,cs::aw=>(k,n,au cs)::uN (k+1) N aw
 |_,_,_=>[]
noncomputable def pE:Nat->List (List AV)->List (Nat×Option U)
 |_,[]=>[]
 |k,cs::aw=>(k,some<|au cs)::pE (k+1) aw
noncomputable def zz:List Nat->List (List AV)->List (Nat×U)
 |n::N,cs::aw=>(n,au cs)::zz N aw
 |_,_=>[]
theorem Hg:∀{k:Nat} {N:List Nat} {aw:List<|List AV} {p:Nat×Nat×U},p∈uN k N aw->∃(i n:Nat) (cs:List AV),N[i]? =some n/\aw[i]? =some cs/\p=(k+i,n,au cs)
 |k,n::N,cs::aw,p,h=>by
  rcases List.mem_cons.1 h with rfl|h
  ·exact⟨0,n,cs,rfl,rfl,rfl⟩
  ·obtain⟨i,n',c',h1,h2,h3⟩:=Hg h;exact⟨i+1,n',c',h1,h2,by rw[h3,Nat.add_assoc,Nat.add_comm 1 i]⟩
theorem Cq:∀{k:Nat} {N:List Nat} {aw:List<|List AV} {i n:Nat} {cs:List AV},N[i]? =some n->aw[i]? =some cs->(k+i,n,au cs)∈uN k N aw
 |k,n::N,cs::aw,0,n',uM,h1,h2=>by cases h1;cases h2;exact List.mem_cons_self
 |k,n::N,cs::aw,i+1,n',uM,h1,h2=>by refine List.mem_cons_of_mem _ ?_;have:=Cq (k:=k+1) (N:=N) (aw:=aw) (i:=i) h1 h2;rw[show k+(i+1)=k+1+i by omega];exact this
theorem GM:∀{k:Nat} {N:List Nat} {aw:List<|List AV},N.length=aw.length->n9 (rk<|uN k N aw)=pE k aw
 |k,[],[],_=>rfl
 |k,n::N,cs::aw,h=>by have:=GM (k:=k+1) (N:=N) (aw:=aw)<|Nat.succ.inj h;show(k,some<|au cs)::n9 (rk<|uN (k+1) N aw)=_;rw[this];rfl
 |k,[],_::_,h=>by cases h
 |k,_::_,[],h=>by cases h
theorem Gh:∀{N:List Nat} {aw:List<|List AV} {n:Nat} {q:U},(n,q)∈zz N aw->∃(i:Nat) (cs:List AV),N[i]? =some n/\aw[i]? =some cs/\q=au cs
 |n::N,cs::aw,m,q,h=>by
  rcases List.mem_cons.1 h with e|h
  ·injection e with e1 e2
   exact⟨0,cs,by rw[e1];rfl,rfl,e2⟩
  ·obtain⟨i,c',h1,h2,h3⟩:=Gh h;exact⟨i+1,c',h1,h2,h3⟩
theorem GN:∀{N:List Nat} {aw:List<|List AV} {i n:Nat} {cs:List AV},N[i]? =some n->aw[i]? =some cs->(n,au cs)∈zz N aw
 |n::N,cs::aw,0,n',uM,h1,h2=>by cases h1;cases h2;exact List.mem_cons_self
 |n::N,cs::aw,i+1,n',uM,h1,h2=>List.mem_cons_of_mem _<|GN (i:=i) h1 h2
theorem Hh:∀{N:List Nat} {n:Nat},n∈N->N[iU N n]? =some n
 |m::N,n,h=>by
  unfold iU;split
  ·rename_i e;rw[e];rfl
  ·rename_i e;rcases List.mem_cons.1 h with q|q
   ·exact absurd q e
   ·exact Hh q
theorem GO{N:List Nat}(h:N.Nodup){i j n:Nat}(h1:N[i]? =some n)(h2:N[j]? =some n):i=j:=by obtain⟨a,e1⟩:=List.getElem?_eq_some_iff.1 h1;obtain⟨b,e2⟩:=List.getElem?_eq_some_iff.1 h2;exact(List.getElem_inj h).1<|e1.trans e2.symm
theorem FF:∀{N:List Nat} {s s1:AS} {aw:List<|List AV},lU N s= .ok aw s1->(s1.h=s.h/\s1.nx=s.nx)/\N.length=aw.length/\∀(i n:Nat) (cs:List AV),N[i]? =some n->aw[i]? =some cs->(s.h.get n=some (au cs)/\cs.length<=top/\cs.all AV.bV=true/\n<top)
 |[],s,s1,aw,h=>by obtain⟨rfl,rfl⟩:=aM h;exact⟨⟨rfl,rfl⟩,rfl,fun i n cs h=>by cases h⟩
 |m::N,s,s1,aw,h=>by
  obtain⟨o,s2,k1,h⟩:=M.aI h;obtain⟨c,m1,h⟩:=aX h;obtain⟨cC,h⟩:=bM h;obtain⟨cC,aS⟩:=and_true.1 cC;obtain⟨r,s3,k2,h⟩:=M.aI h;obtain⟨rfl,rfl⟩:=aM h;obtain⟨rfl,xh⟩:=Mb m1;obtain⟨b1,b2,b3,b4⟩:=dW k1;obtain⟨⟨c1,c2⟩,c3,c4⟩:=FF k2;refine⟨⟨c1.trans b3,c2.trans b4⟩,congrArg Nat.succ c3,fun i n cs h1 h2=>?_⟩;cases i with
  |zero=>cases h1;cases h2;exact⟨b2,xh,cC,(blt_eq _ _).mp aS⟩
  |succ i=>rw[←b3];exact c4 i n cs h1 h2
theorem OF{ρ σ:ah}{f:Nat->Nat}{x:AV}{v:Value}(hi:iT ρ σ)(h:fT x=true)(hf:∀n∈ui x,σ (f n)=ρ n)(k:VR ρ x v):VR σ (iF f x) v:=by
 unfold iF;split
 ·rename_i n o;simp only[VR] at k ⊢;rw[hf n List.mem_cons_self];exact k
 ·rename_i n o l c;have e:=hf n List.mem_cons_self;cases c with
  |known c=>simp only[VR] at k ⊢;rw[e];exact k
  |bA a b=>simp only[VR] at k ⊢;rw[e];exact k
  |lost=>simp only[VR] at k ⊢;rw[e];exact k
 ·rename_i g n o;have e:=hf n List.mem_cons_self;simp only[VR,aq] at k ⊢;rw[e];exact k
 ·rename_i h1 h2 h3;have e:ui x=[]:=by
   unfold ui;split
   ·exact absurd rfl<|h1 _ _
   ·exact absurd rfl<|h2 _ _ _ _
   ·exact absurd rfl<|h3 _ _ _
   ·rfl
  have hx:x.hi=true:=by
   unfold fT at h;rw[e] at h;cases q:x.hi with
   |true=>rfl
   |false=>rw[q] at h;cases h
  exact AV.tP hi hx k
theorem Hi{ρ σ:ah}{f:Nat->Nat}(hi:iT ρ σ):∀{l:List AV} {vs:List Value},l.all fT=true->(∀n∈cS l,σ (f n)=ρ n)->aq ρ l vs->aq σ (l.map<|iF f) vs
 |[],_,_,_,h=>by simpa only[aq,List.map_nil] using h
 |x::l,vs,h1,h2,h=>by obtain⟨a1,a2⟩:=and_true.1 (show(fT x&&l.all fT)=true from h1);simp only[List.map_cons,aq] at h ⊢;obtain⟨v,vr,e,k1,k2⟩:=h;exact⟨v,vr,e,OF hi a1 (fun n hn=>h2 n<|List.mem_append_left _ hn) k1,Hi hi a2 (fun n hn=>h2 n<|List.mem_append_right _ hn) k2⟩
def wW(J:Nat)(P:Program)(rs:List ResultVar)(y:AV)(aw:List<|List AV):=Fin P rs fun y1 s'=>y1=y/\∀(i:Nat) (cs:List AV),aw[i]? =some cs->s'.h.get (J+i)=some (au cs)
theorem MY{c:Option<|List AV}{aw:List<|List AV}:(kY c aw).length=aw.length:=by unfold kY;split<;>rfl
end Go.Rn
namespace Go.Rn
open Go.RowKit
theorem Md{P:Program}{B:aC}{f J:Nat}{ns:List Nat}{h0:Tr U}{kn:List<|Nat×Option U}{val:List AV->List (List AV)->Option (AV×Option (List AV))}{fn:Func}{body:Code}{ρ:ah}{w:World}{s s1:AS}(hP:dp P)(cw:P.funcs[f]? =some fn)(cV:fn.body=some body)(dX:(fn.name == "runtime.NumGoroutine")=false)(oQ:fw<=J)(fP:J+2<=top)(fp:∀n o,n<top->h0.get n=some o->n∈ns)(ga:∀n∈ns,n<J)(nz:∀n o,(n,some o)∈kn->h0.get n=some o)(uJ:∀p∈kn,p.1<top)(gF:∀args aw y c,val args aw=some (y,c)->max fn.ntmps args.length<=top/\∀B':aC,B'.F=B.F->B'.inv=B.inv->
 bp P B' (J+aw.length) (wW J P fn.results.toList y<|kY c aw) ⟨f,bt args,max fn.ntmps args.length,[.code body],[],none⟩ ⟨jA<|kn++pE J aw,J+aw.length,0,[],[]⟩){Sy:aD}{args:List AV}{x:AV}{vs:Array Value}(r:Rel B ρ s.h w)(hg:dN ρ)(h:eU val J ns h0 Sy args s= .ok x s1)(hv:aq ρ args vs.toList):fm P ((callFunc f vs).run P w)<|fM B ρ s s1 w x:=by
 unfold eU at h;obtain⟨cC,h⟩:=bM h;obtain⟨Ak,Jf⟩:=and_true.1 cC;obtain⟨oN,h⟩:=Ma h;have Jf:=aL.1 Jf;obtain⟨u,s2,h2,h⟩:=M.aI h;obtain⟨a1,a2,a3⟩:=ya h2;obtain⟨aw,s3,k1,h⟩:=M.aI h;obtain⟨p,hp,h⟩:=aX h;obtain⟨RA,h⟩:=bM h;obtain⟨y,c⟩:=p;obtain⟨⟨b1,b2⟩,hlen,b3⟩:=FF k1;have aB:∀(i n:Nat) (cs:List AV),(cS args)[i]? =some n->aw[i]? =some cs->s.h.get n=some (au cs)/\cs.length<=top/\cs.all AV.bV=true/\n<top:=fun i n cs e1 e2=>by rw[←a1];exact b3 i n cs e1 e2
 have gd:aw.length<=2:=by omega
 have ua:x=y/\(s1.nx=s.nx)/\(∀c0,c=some c0->c0.length<=top/\c0.all AV.bV=true)/\(∀(i n:Nat) (cs:List AV),(cS args)[i]? =some n->(kY c aw)[i]? =some cs->s1.h.get n=some (au cs))/\∀k,k<top->k ∉ cS args->s1.h.get k=s.h.get k:=by
  unfold l5 at h;cases c with
  |none=>obtain⟨rfl,rfl⟩:=aM h;refine⟨rfl,b2.trans a2,fun c0 q=>(by cases q),fun i n cs e1 e2=>?_,fun k _ _=>by rw[b1,a1]⟩;rw[b1,a1];exact(aB i n cs e1 e2).1
  |some c0=>
   generalize S7:cS args=N at*;cases N with
   |nil=>cases h
   |cons n N=>
    obtain⟨q,h⟩:=bM h;obtain⟨_,t1,w1,h⟩:=M.aI h;obtain⟨rfl,rfl⟩:=aM h;obtain⟨x1,x2,_,x4,x5⟩:=gj w1;obtain⟨q1,q2⟩:=and_true.1 q;cases aw with
    |nil=>cases hlen
    |cons D8 aw=>
     refine⟨rfl,x5.trans<|b2.trans a2,fun c1 e=>(by cases e;exact⟨aL.1 q2,q1⟩),fun i m cs e1 e2=>?_,fun k hk hn=>?_⟩
     ·obtain⟨g,_,_,hm⟩:=aB i m (if i=0 then D8 else cs) e1 (by cases i with|zero=>rfl|succ i=>exact e2);rw[x4,Tr.cJ _ _ _ _ x2 hm];cases i with
      |zero=>cases e1;cases e2;rw[if_pos rfl]
      |succ i=>
       have:m≠n:=fun e=>by subst e;have:=GO oN (i:=0) (j:=i+1) rfl e1;cases this
       rw[if_neg this,b1,a1];exact g
     ·rw[x4,Tr.cJ _ _ _ _ x2 hk,if_neg fun e=>hn (by rw[e];exact List.mem_cons_self),b1,a1]
 obtain⟨rfl,bj,lu,iR,hold⟩:=ua;have oM:(kY c aw).length=aw.length:=MY;have DE:∀(i:Nat) (cs:List AV),(kY c aw)[i]? =some cs->∃n,(cS args)[i]? =some n/\cs.length<=top/\cs.all AV.bV=true:=fun i cs e=>by
  have hi:i<aw.length:=by rw[←oM];exact(List.getElem?_eq_some_iff.1 e).1
  have e1:(cS args)[i]? =some ((cS args)[i]'(by omega)):=List.getElem?_eq_getElem (by omega);refine⟨_,e1,?_⟩;have k0:=aB i _ _ e1<|List.getElem?_eq_getElem hi;cases c with
  |none=>have:(kY none aw)=aw:=rfl;rw[this,List.getElem?_eq_getElem hi] at e;cases e;exact⟨k0.2.1,k0.2.2.1⟩
  |some c0=>
   cases aw with
   |nil=>cases hi
   |cons D8 aw=>
    cases i with
    |zero=>cases e;exact lu _ rfl
    |succ i=>have e:aw[i]? =some cs:=e;have bP:i<aw.length:=Nat.lt_of_succ_lt_succ hi;rw[List.getElem?_eq_getElem bP] at e;cases e;exact⟨k0.2.1,k0.2.2.1⟩
 let V:Vw:=uN J (cS args) aw;have mem:∀q∈V,∃(i n:Nat) (cs:List AV),(cS args)[i]? =some n/\aw[i]? =some cs/\q=(J+i,n,au cs):=fun q hq=>Hg hq;have hi:iT ρ<|jE J ρ V:=fun m x hm e=>by rw[vJ (by omega) hm];exact e
 have xG:∀{L:List<|List AV} {i:Nat} {cs:List AV},L[i]? =some cs->i<L.length:=fun e=>(List.getElem?_eq_some_iff.1 e).1;have hV:xD J ρ s.h V:=by
  refine⟨fun q hq=>?_,fun q hq q' cZ e=>?_,fun q hq q' cZ e=>?_,fun q hq=>?_⟩
  ·obtain⟨i,n,cs,e1,e2,rfl⟩:=mem q hq;have:=xG e2;exact⟨Nat.le_add_right _ _,by show J+i<top;omega,(aB i n cs e1 e2).2.2.2⟩
  ·obtain⟨i,n,cs,e1,e2,rfl⟩:=mem q hq;obtain⟨j,m,ds,f1,f2,rfl⟩:=mem q' cZ;have e:J+i=J+j:=e;obtain rfl:i=j:=by omega
   rw[e1] at f1;rw[e2] at f2;cases f1;cases f2;rfl
  ·obtain⟨i,n,cs,e1,e2,rfl⟩:=mem q hq;obtain⟨j,m,ds,f1,f2,rfl⟩:=mem q' cZ;have e:n=m:=e;subst e;obtain rfl:=GO oN e1 f1;rw[e2] at f2;cases f2;rfl
  ·obtain⟨i,n,cs,e1,e2,rfl⟩:=mem q hq;obtain⟨g,g2,g3,_⟩:=aB i n cs e1 e2;exact⟨_,g,.inl ⟨rfl,rfl,fun N o' hO=>Ig hi g2 g3 hO⟩⟩
 obtain⟨_,dC,T⟩:=r.tk;have T:Dp B ρ s.h w dC:=T;have uh:=Pv (by omega) r T fp ga nz uJ (fun n hn=>by obtain⟨_,o,p,h⟩:=a3 n hn;exact⟨o,p,h⟩) hV;have Ql:n9 (rk V)=pE J aw:=GM hlen;rw[Ql] at uh;obtain⟨q1,q2⟩:=gF _ _ _ _ hp;have fi:aO (⟨jA<|kn++pE J aw,J+aw.length,0,[],[]⟩:AS):=⟨Nat.zero_le _,by show J+aw.length<=top;omega⟩;have jG:aq (jE J ρ V) (args.map<|iF fun n=>J+iU (cS args) n) vs.toList:=Hi hi Ak (fun n hn=>by
  have e1:=Hh hn;have aS:iU (cS args) n<aw.length:=by rw[←hlen];exact(List.getElem?_eq_some_iff.1 e1).1
  exact hV.nA<|Cq e1<|List.getElem?_eq_getElem aS) hv
 have bd:=bp.OA (B:=zx B ρ w<|wH ρ dC V) (s:=⟨jA<|kn++pE J aw,J+aw.length,0,[],[]⟩) (args:=args.map<|iF fun n=>J+iU (cS args) n) (vs:=vs) hP cw cV q1 (q2 _ rfl rfl) fi uh (fun g lB=>by
  obtain⟨N,e⟩:=hg g lB;exact⟨N,by rw[B3<|Nat.lt_of_lt_of_le lB oQ];exact e⟩) (fun m hm eZ=>by
  have hm:J+aw.length<=m:=hm;exact L9 (by omega) eZ fun q hq=>by obtain⟨i,n,cs,e1,e2,rfl⟩:=mem q hq;have:=xG e2;show J+i≠m;omega) jG
 rw[AI cw cV dX];show Calls P f vs w _;refine bd.mono fun e w'=>?_;rintro ⟨RB,x',s7,rfl,⟨rfl,j1⟩,_,σ,i0,RC,i1,i2,i3⟩;have sV:∀q∈V,σ q.1=ρ q.2.1:=fun q hq=>by obtain⟨i,n,cs,e1,e2,rfl⟩:=mem q hq;have:=xG e2;exact(i0 (J+i) (by show J+i<J+aw.length;omega)<|by omega).trans<|hV.nA hq
 have Jg:iT σ<|du ρ σ:=fun k x hk e=>by unfold du;rw[if_pos hk];exact e
 obtain⟨f1,f2,f3,f4⟩:=OD (a:=s.nx) (L2:=zz (cS args)<|kY c aw) (h':=s1.h) r T hV i2 i3 sV (fun m z hm q=>RC m z hm<|hi m z hm q) (fun m q hm=>by
  obtain⟨i,cs,e1,e2,rfl⟩:=Gh hm;have bP:i<aw.length:=by rw[←oM];exact xG e2
  obtain⟨_,_,g2,g3⟩:=DE i cs e2;exact⟨_,Cq e1<|List.getElem?_eq_getElem bP,rfl,_,j1 i cs e2,.inl ⟨rfl,rfl,fun N o' hO=>Ig Jg g2 g3 hO⟩⟩) (fun q hq bY=>by
  obtain⟨i,n,cs,e1,e2,rfl⟩:=mem q hq;have bP:i<(kY c aw).length:=by rw[oM];exact xG e2
  exact⟨_,j1 i _<|List.getElem?_eq_getElem bP,rfl⟩) (fun m hm=>by
  by_cases q:m∈cS args
  ·obtain⟨i,bP,e⟩:=List.mem_iff_getElem.1 q;have e1:(cS args)[i]? =some m:=by rw[List.getElem?_eq_getElem bP,e]
   have pY:i<(kY c aw).length:=by omega
   have e2:=List.getElem?_eq_getElem pY;exact .inl ⟨_,GN e1 e2,iR i m _ e1 e2⟩
  ·refine .inr ⟨fun p hp=>?_,hold m hm q⟩;obtain⟨i,n,cs,e1,e2,rfl⟩:=mem p hp;exact fun e=>q (by rw[←show n=m from e];exact List.mem_of_getElem? e1))
 refine⟨RB,rfl,du ρ σ,?_,AV.tP Jg RA i1,f3,f4⟩;rw[bj];exact f1
section
variable {X:TX} {P:Program} {J:Nat} {ns:List Nat} {h0:Tr U} {kn:List<|Nat×Option U} {L L':bZ} {g:Nat} {fn:Func} {body:Code}
theorem MZ(hP:dp P)(oQ:fw<=J)(fP:J+2<=top)(fp:∀n o,n<top->h0.get n=some o->n∈ns)(ga:∀n∈ns,n<J)(nz:∀n o,(n,some o)∈kn->h0.get n=some o)(uJ:∀p∈kn,p.1<top){val:List AV->List (List AV)->Option (AV×Option (List AV))}(h:gR X J P<|ed J ns h0 L)(h':gR X J P<|ed J ns h0 L')(cw:P.funcs[g]? =some fn)(cV:fn.body=some body)(dX:(fn.name == "runtime.NumGoroutine")=false)(gF:∀args aw y c,val args aw=some (y,c)->max fn.ntmps args.length<=top/\∀B:aC,zS X P J ns h0 L' B->
 bp P B (J+aw.length) (wW J P fn.results.toList y<|kY c aw) ⟨g,bt args,max fn.ntmps args.length,[.code body],[],none⟩ ⟨jA<|kn++pE J aw,J+aw.length,0,[],[]⟩):gR X J P<|ed J ns h0<|(g,.raw<|eU val)::L:=by
 refine(show gR X J P (ue (ed J ns h0 L) g<|eU val J ns h0) from h.lq (fun Sy _ args=>Sx.eU _ _ _ _ Sy args) fun B hB hT Sy hc hl args x s s1 ρ w vs fi r hg hf hm hv=>?_);refine Md hP cw cV dX oQ fP fp ga nz uJ (fun args aw y c e=>?_) r hg hm hv;obtain⟨q1,q2⟩:=gF args aw y c e;exact⟨q1,fun B' D2 D3=>q2 B'<|Dn hP h' (D2.trans hB)<|D3.trans hT⟩
end
noncomputable section
def v9:List Nat->List (List AV)->AS->Prop
 |n::N,cs::aw,s=>(Nat.blt n s.nx=true/\s.h.get n=some (au cs))/\v9 N aw s
 |_,_,_=>True
def tT:List Nat->AS->AS
 |n::N,s=>tT N<|aV n s
 |[],s=>s
def rp(J:Nat)(h0:Tr U)(ns:List Nat)(N:List Nat)(aw:List<|List AV)(s:AS):Prop:=wP J h0 ns s=true/\v9 N aw (kU J h0 ns s)
def zA(J:Nat)(h0:Tr U)(ns:List Nat)(N:List Nat)(s:AS):AS:=tT N<|kU J h0 ns s
def CX(J:Nat)(h0:Tr U)(ns:List Nat)(n:Nat)(N:List Nat)(c:List AV)(s:AS):AS:=fS n (some<|au c)<|tT (n::N)<|kU J h0 ns s
end
theorem Hj:∀(N:List Nat) (s:AS),(tT N s).h=s.h/\(tT N s).nx=s.nx
 |[],s=>⟨rfl,rfl⟩
 |n::N,s=>by obtain⟨a,b⟩:=Hj N<|aV n s;exact⟨a.trans (gk n s).1,b.trans (gk n s).2.1⟩
theorem GP{m:Nat}:∀{N:List Nat} {aw:List<|List AV} {s:AS},v9 N aw s->v9 N aw (aV m s)
 |[],_,_,_=>trivial
 |_::_,[],_,_=>trivial
 |n::N,cs::aw,s,⟨⟨a,b⟩,c⟩=>⟨⟨by rw[(gk m s).2.1];exact a,by rw[(gk m s).1];exact b⟩,GP c⟩
theorem Br:∀{N:List Nat} {aw:List<|List AV} {s:AS},N.length=aw.length->v9 N aw s->(N.all fun n=>Nat.blt n top)=true->(aw.all fun cs=>and (cs.all AV.bV)<|Nat.ble cs.length top)=true->lU N s= .ok aw (tT N s)
 |[],[],s,_,_,_,_=>rfl
 |[],_::_,_,h,_,_,_=>by cases h
 |_::_,[],_,h,_,_,_=>by cases h
 |n::N,cs::aw,s,h,⟨⟨a,b⟩,c⟩,h2,h3=>by obtain⟨h2,h4⟩:=and_true.1 (show(Nat.blt n top&&(N.all fun n=>Nat.blt n top))=true from h2);obtain⟨h3,h5⟩:=and_true.1 (show((cs.all AV.bV&&Nat.ble cs.length top)&&(aw.all fun cs=>and (cs.all AV.bV)<|Nat.ble cs.length top))=true from h3);obtain⟨h6,h7⟩:=and_true.1 h3;show((aY n).bind fun o=>aA (rowOf o) fun cs=>ay (and (cs.all AV.bV)<|Nat.blt n top) <| (lU N).bind fun r=>M.pure<|cs::r) s=_;rw[M.bo<|jV a b,Mc<|aL.1 h7,aP,h6,h2,show and true true=true from rfl,bC,M.bo<|Br (Nat.succ.inj h) (GP c) h4 h5];rfl
section
variable {P:Program} {F:Nat->Option (List AV)} {sp:Sp} {g n J:Nat} {h0:Tr U} {ns:List Nat} {val:List AV->List (List AV)->Option (AV×Option (List AV))} {args:List AV} {N:List Nat} {aw:List<|List AV} {y:AV}
theorem Cr(h:sp g=some (eU val J ns h0))(hN:cS args=N)(ha:(args.all fT&&Nat.ble N.length 2)=true)(hd:N.Nodup)(hl:N.length=aw.length)(ht:(N.all fun n=>Nat.blt n top)=true)(hc:(aw.all fun cs=>and (cs.all AV.bV)<|Nat.ble cs.length top)=true)(hv:val (args.map<|iF fun n=>J+iU N n) aw=some (y,none))(hy:y.hi=true):
 ∀s,rp J h0 ns N aw s->br P sp F (n+1) (.fn g) args s= .ok y (zA J h0 ns N s):=fun s q=>by
 obtain⟨hk,hq⟩:=q;subst hN;show gg P sp g (br P sp F n) args s=_;rw[qY h];show(ay (and (args.all fT)<|Nat.ble (cS args).length 2) <| mY (cS args).Nodup <| (fV J h0 ns).bind fun _=>(lU<|cS args).bind fun aw=>aA (val (args.map<|iF fun n=>J+iU (cS args) n) aw) fun p=>ay p.1.hi <| l5 (cS args) p) s=_;rw[ha,bC,GL hd,M.bo<|vQ hk,M.bo<|Br hl hq ht hc,hv,aP];show(ay y.hi <| l5 (cS args) (y,none)) _=_;rw[hy,bC];unfold l5;rfl
theorem HJ{m:Nat}{c:List AV}(h:sp g=some (eU val J ns h0))(hN:cS args=m::N)(ha:(args.all fT&&Nat.ble (m::N).length 2)=true)(hd:(m::N).Nodup)(hl:(m::N).length=aw.length)(ht:((m::N).all fun n=>Nat.blt n top)=true)(hc:(aw.all fun cs=>and (cs.all AV.bV)<|Nat.ble cs.length top)=true)(hv:val (args.map<|iF fun n=>J+iU (m::N) n) aw=some (y,some c))(hy:y.hi=true)(RD:(c.all AV.bV&&Nat.ble c.length top)=true):
 ∀s,rp J h0 ns (m::N) aw s->br P sp F (n+1) (.fn g) args s= .ok y (CX J h0 ns m N c s):=fun s q=>by
 obtain⟨hk,hq⟩:=q;show gg P sp g (br P sp F n) args s=_;rw[qY h];show(ay (and (args.all fT)<|Nat.ble (cS args).length 2) <| mY (cS args).Nodup <| (fV J h0 ns).bind fun _=>(lU<|cS args).bind fun aw=>aA (val (args.map<|iF fun n=>J+iU (cS args) n) aw) fun p=>ay p.1.hi <| l5 (cS args) p) s=_;rw[hN,ha,bC,GL hd,M.bo<|vQ hk,M.bo<|Br hl hq ht hc,hv,aP];show(ay y.hi <| l5 (m::N) (y,some c)) _=_;rw[hy,bC];show(ay (c.all AV.bV&&Nat.ble c.length top) <| (aZ m<|some<|au c).bind fun _=>M.pure y) _=_;rw[RD,bC];cases aw with
 |nil=>cases hl
 |cons c0 aw=>obtain⟨⟨k1,k2⟩,_⟩:=hq;obtain⟨e1,e2⟩:=Hj (m::N)<|kU J h0 ns s;rw[M.bo<|qN (by rw[e2];exact k1) (by rw[e1];exact k2) rfl (and_true.1 (show(Nat.blt m top&&_)=true from ht)).1];rfl
end
section
variable {P:Program} {B:aC} {n J:Nat} {rs:List ResultVar} {y:AV} {c1 c2:List AV} {fr:AF} {s:AS}
theorem bp.mono{Q Q':Tr AV->List Nat->Option Code->AS->Prop}(h:bp P B n Q fr s)(hq:∀t d j s,Q t d j s->Q' t d j s):bp P B n Q' fr s:=fun ρ w b a cs h1 h2 h3=>by obtain⟨aU,j,s1,σ,a',w',q,r⟩:=h ρ w b a cs h1 h2 h3;exact⟨aU,j,s1,σ,a',w',hq _ _ _ _ q,r⟩
theorem tU(h:bp P B n (Fin P rs fun v s=>v=y/\s.h.get J=some (au c1)) fr s):bp P B n (wW J P rs y [c1]) fr s:=
 h.mono fun t d j s=>by
  rintro ⟨x,s3,e,h1,h2⟩;refine⟨x,s3,e,h1,fun i cs k=>?_⟩
  match i,k with
  |0,k=>cases k;exact h2
  |i+1,k=>cases k
theorem tV(h:bp P B n (Fin P rs fun v s=>v=y/\s.h.get J=some (au c1)/\s.h.get (J+1)=some (au c2)) fr s):bp P B n (wW J P rs y [c1,c2]) fr s:=
 h.mono fun t d j s=>by
  rintro ⟨x,s3,e,h1,h2,h3⟩;refine⟨x,s3,e,h1,fun i cs k=>?_⟩
  match i,k with
  |0,k=>cases k;exact h2
  |1,k=>cases k;exact h3
  |i+2,k=>cases k
end
end Go.Rn
namespace Go.Rn
open Go.RowKit
end Go.Rn
namespace Go.Rn
open Go.RowKit
end Go.Rn
namespace Go.Rn
open Go.RowKit
def cD(p:Int×Int):List AV:=[.int .i64 p.1,.int .i64 p.2]
theorem Me(x y:Int×Int)(h:cD x=cD y):x=y:=by obtain⟨a,b⟩:=x;obtain⟨c,d⟩:=y;simp only[cD,List.cons.injEq,AV.int.injEq,true_and,_root_.and_true] at h;rw[h.1,h.2]
section
variable {P:Program} {B:aC} {ρ:ah} {w:World} {s s1:AS} {f g:FuncId}
end
end Go.Rn
namespace Go.Rn
open Go.RowKit
def eO{α:Type}(enc:α->List AV)(K:Nat)(a:AV)(l:List α):Prop:=∃n o,a= .b9 n o l.length/\top<=n/\∀(i:Nat) c,l[i]? =some c->eK FU n (o+i*K) K=some (enc c)
theorem eO.az{α:Type}{enc:α->List AV}{K:Nat}(he:kh K enc)(l:List α):eO enc K (az enc l) l:=⟨_,0,rfl,aQ _,fun i c hc=>by have:=qZ he hc 0 K (by omega);rw[Nat.zero_add];rw[Nat.add_zero,List.drop_zero, ←he.len c,List.take_length] at this;rw[he.len c] at this;exact this⟩
theorem eO.inj{α:Type}{enc:α->List AV}{K:Nat}{a:AV}{l m:List α}(ud:∀x y,enc x=enc y->x=y)(h:eO enc K a l)(k:eO enc K a m):l=m:=by
 obtain⟨n,o,rfl,_,h2⟩:=h;obtain⟨n',o',e,_,k2⟩:=k;injection e with e1 e2 e3
 subst e1;subst e2;refine List.ext_getElem? fun i=>?_;by_cases q:i<l.length
 ·have a1:l[i]? =some l[i]:=List.getElem?_eq_getElem q;have a2:m[i]? =some (m[i]'(by omega)):=List.getElem?_eq_getElem (by omega);have b1:=h2 i _ a1;have b2:=k2 i _ a2;rw[b1] at b2;injection b2 with b2
  rw[a1,a2,ud _ _ b2]
 ·rw[List.getElem?_eq_none (by omega),List.getElem?_eq_none<|by omega]
theorem NG{α:Type}{fz:fN}{r:Nat->Nat}{enc:α->List AV}{l:List α}{n:Nat}{cap:bc}(hm:(n,nm (l.map enc).flatten,(l.map enc).flatten)∈fz)(hr:∀k,top<=k->r k=k)(hc:(match cap with| .known c=>Nat.ble l.length c| .bA _ _=>true| .lost=>false)=true):ju fz r (.slice (some (n,0)) l.length cap)<|az enc l:=by
 intro ρ gJ v xF hv;have:∃b N c,ρ n=some (b,N)/\v= .slice (some ⟨b,0,none⟩) l.length c/\l.length<=c:=by
  cases cap with
  |known c=>simp only[VR] at hv;obtain⟨b,N,e,hv⟩:=hv;exact⟨b,N,c,e,hv,aL.1 hc⟩
  |bA lo e0=>simp only[VR] at hv;obtain⟨b,N,c,e,hv,_,h,_⟩:=hv;exact⟨b,N,c,e,hv,h⟩
  |lost=>cases hc
 obtain⟨b,N,c,e,rfl,hle⟩:=this;have hk:=xF.2.2 _ hm b N e;unfold az;simp only[VR];exact .inr ⟨b,0,c,.inr ⟨aQ _,fun z=>hk<|(congrArg gJ<|hr _<|eR _ _ _).symm.trans z⟩,rfl,fun _=>⟨hle,(v5 _).1⟩⟩
theorem NH{α:Type}{fz:fN}{r:Nat->Nat}{enc:α->List AV}:ju fz r (.slice none 0<|.known 0)<|az enc []:=by intro ρ gJ v _ hv;simp only[VR] at hv;obtain⟨rfl,_,_⟩:=hv;unfold az;simp only[VR];exact .inl ⟨aQ _,rfl,none,0,rfl,(fun _=>rfl),(fun _=>rfl),fun e=>absurd e (v5 _).2⟩
theorem OG{fz:fN}{r:Nat->Nat}{n o len:Nat}(ht:top<=n)(hr:∀k,top<=k->r k=k):ju fz r (.b9 n o len)<|.b9 n o len:=(cn.b9 (hr n ht) hr).z
theorem yY{α:Type}{fz:fN}{r:Nat->Nat}{enc:α->List AV}{l:List α}(hr:∀k,top<=k->r k=k):ju fz r (az enc l)<|az enc l:=OG (aQ _) hr
theorem NI{α:Type}{K:Nat}{enc:α->List AV}(he:kh K enc){l:List α}(hl:l.length*K<=top)(n:Nat)(hn:n<top){o0:List<|Nat×Option U}(hm:(n,some<|aG enc l)∈o0):
 n<top/\FU (nm (l.map enc).flatten)=some (l.map enc).flatten/\∃N t z,(n,some<|.cells N t z)∈o0/\∀i x,(l.map enc).flatten[i]? =some x->i<N/\cellAt t z i=some x/\x.bB=true/\x.bV=true:=by
 refine⟨hn,CV<|he.all l,_,_,_,hm,fun i x hx=>?_⟩;have hi:=(List.getElem?_eq_some_iff.1 hx).1;have hc:=List.all_eq_true.1 (he.all l) x<|List.mem_of_getElem? hx;exact⟨hi,by rw[oW (by rw[he.length];exact hl) hi];exact hx,Bq hc,BH hc⟩
def nZ(fz:fN)(r:Nat->Nat):List AV->List AV->Prop
 |[],[]=>True
 |x::l,y::m=>ju fz r x y/\nZ fz r l m
 |_,_=>False
theorem nZ.length{fz:fN}{r:Nat->Nat}:∀{l m:List AV},nZ fz r l m->l.length=m.length
 |[],[],_=>rfl
 |_::_,_::_,h=>by simp[nZ.length h.2]
 |[],_::_,h=>by cases h
 |_::_,[],h=>by cases h
theorem nZ.I{fz:fN}{r:Nat->Nat}:∀{l m:List AV} {i:Nat} {x y:AV},nZ fz r l m->l[i]? =some x->m[i]? =some y->ju fz r x y
 |x::l,y::m,0,a,b,h,h1,h2=>by simp at h1 h2;subst h1;subst h2;exact h.1
 |x::l,y::m,i+1,a,b,h,h1,h2=>nZ.I h.2 (by simpa using h1) (by simpa using h2)
 |[],[],_,_,_,_,h1,_=>by simp at h1
 |_::_,[],_,_,_,h,_,_=>by cases h
 |[],_::_,_,_,_,h,_,_=>by cases h
theorem jv.cells{fz:fN}{r:Nat->Nat}{l m:List AV}(hl:l.length<=top)(h:nZ fz r l m)(h1:m.all AV.bB=true):jv fz r (.cells l.length (Tr.fill l 0 .nil) [])<|.cells m.length (Tr.fill m 0 .nil) []:=by
 have hlen:=h.length;intro ρ gJ N o xF k;obtain⟨c,e,rfl,k1,k2,k3⟩:=k;refine⟨c,e,rfl,k1,by omega,fun i hi=>?_⟩;obtain⟨x,v,a1,a2,a3,a4⟩:=k3 i (by omega);have hx:l[i]? =some x:=by unfold cellAt at a1;rw[Tr.nK _ _ _ _ (by omega),if_pos (by omega),Nat.sub_zero,List.getElem?_eq_getElem<|by omega] at a1;rw[List.getElem?_eq_getElem<|by omega];exact a1
 have hy:m[i]? =some m[i]:=List.getElem?_eq_getElem hi;refine⟨m[i],v,?_,?_,a3,h.I hx hy ρ gJ v xF a4⟩
 ·unfold cellAt;rw[Tr.nK _ _ _ _ (by omega),if_pos (by omega),Nat.sub_zero,hy]
 ·exact List.all_eq_true.1 h1 _<|List.getElem_mem hi
open Classical in
noncomputable def fY(R:List AV->AV->Prop)(args:List AV):Option AV:=if h:∃v,R args v then some h.choose else none
theorem o8{R:List AV->AV->Prop}{args:List AV}{v:AV}(h:fY R args=some v):R args v:=by
 unfold fY at h;split at h
 ·rename_i q;injection h with h;rw[←h];exact q.choose_spec
 ·cases h
theorem pb{R:List AV->AV->Prop}(hd:∀args v v',R args v->R args v'->v=v'){args:List AV}{v:AV}(h:R args v):fY R args=some v:=by unfold fY;have q:∃v,R args v:=⟨v,h⟩;rw[dif_pos q,hd _ _ _ q.choose_spec h]
end Go.Rn
namespace Go.Rn
open Go.RowKit
end Go.Rn
namespace Go.Rn
open Go.RowKit
noncomputable section
end
section
variable {P:Program} {Sy:aD} {s s1:AS} {l:Nat}
end
section
variable {l:Nat}
noncomputable section
end
end
end Go.Rn
namespace Go.Rn
open Go.RowKit
end Go.Rn
namespace Go.Rn
open Go.RowKit
section
variable {X:TX} {P:Program} {J:Nat} {ns:List Nat} {h0:Tr U} {L:bZ} {g:Nat} {fn:Func} {body:Code}
end
end Go.Rn
namespace Go.Rn
open Go.RowKit Go.ChangeShapes
abbrev hI:=List<|Nat×Nat×List AV
def Has(σ:ah)(ms:hI):Prop:=∀p∈ms,σ (hn (nm p.2.2) p.1 p.2.1)≠none
def Good(w:World)(ms:hI):Prop:=∀p∈ms,p.2.2.all AV.fy=true/\∃c e fr,w.heap[p.1]? =some (.cells c e fr)/\∀(i:Nat) (x:AV),p.2.2[i]? =some x->∃v,c[p.2.1+i]? =some v/\∀σ,Has σ ms->VR (dU σ) x v
def Is(ms:hI)(x:AV)(v:Value):Prop:=∀σ,Has σ ms->VR (dU σ) x v
theorem Has.sub{σ:ah}{a b:hI}(h:Has σ b)(hs:∀p∈a,p∈b):Has σ a:=fun p hp=>h p<|hs p hp
theorem Is.sub{a b:hI}{x:AV}{v:Value}(h:Is a x v)(hs:∀p∈a,p∈b):Is b x v:=fun σ hh=>h σ<|hh.sub hs
theorem Good.nil{w:World}:Good w []:=fun p hp=>by cases hp
theorem Good.app{w:World}{a b:hI}(h:Good w a)(k:Good w b):Good w<|a++b:=fun p hp=>by
 rcases List.mem_append.1 hp with hp|hp
 ·obtain⟨h1,c,e,fr,h2,h3⟩:=h p hp;exact⟨h1,c,e,fr,h2,fun i x hx=>by obtain⟨v,k1,k2⟩:=h3 i x hx;exact⟨v,k1,fun σ hh=>k2 σ<|hh.sub fun p hp=>List.mem_append_left _ hp⟩⟩
 ·obtain⟨h1,c,e,fr,h2,h3⟩:=k p hp;exact⟨h1,c,e,fr,h2,fun i x hx=>by obtain⟨v,k1,k2⟩:=h3 i x hx;exact⟨v,k1,fun σ hh=>k2 σ<|hh.sub fun p hp=>List.mem_append_right _ hp⟩⟩
section
variable {H:Type} {enc:TypeId×Value->H} {P:Program} {w:World} {base:Nat} {spare:Nat->Bool} {held:Bool}
theorem Gi{a:Addr}{n:Nat}{cs:List Value}(h:w.cells? base a n=some cs):cs.length=n/\∀(j:Nat) (x:Value),cs[j]? =some x->w.cell? (a.add j)=some x:=by
 unfold World.cells? at h;split at h
 ·have hlen:cs.length=n:=by simpa using mapM_some_length h
  refine⟨hlen,fun j x hx=>?_⟩;have hj:j<n:=by have:=(List.getElem?_eq_some_iff.1 hx).1;omega
  have:=mapM_some_get h j j (by simp[hj]);exact this.trans hx
 ·cases h
theorem GR(b o m:Nat):(⟨b,o,none⟩:Addr).add m=⟨b,o+m,none⟩:=by
 unfold Addr.add;split
 ·rename_i h;subst h;rfl
 ·rfl
theorem add_zero(a:Addr):a.add 0=a:=by unfold Addr.add;rw[if_pos rfl]
theorem Mh{t e:TypeId}{K fuel:Nat}{v:Value}{x:DataW H×List MemPlace}(zK:0<K)(ht:P.underlying t=some (.slice e))(hK:P.cellsOf e=K)(h:DataW.trod enc P w base spare held fuel t [v]=some x):
 (∃a cap,v= .slice a 0 cap/\(a=none->cap=0))\/∃(b o len cap:Nat) (c:Array Value) (el:TypeId) (fr:Nat×Nat) (rows:List<|List Value),v= .slice (some ⟨b,o,none⟩) len cap/\len<=cap/\w.heap[b]? =some (.cells c el fr)/\rows.length=len/\∀(i:Nat) (row:List Value),rows[i]? =some row->row.length=K/\(∃n y,n<fuel/\DataW.trod enc P w base spare held n e row=some y)/\∀(j:Nat) (x:Value),row[j]? =some x->c[o+i*K+j]? =some x:=by
 rcases DataW.trod_slice ht h with⟨h0,_⟩|⟨a,len,cap,elems,rest,n,Td,xz,_,_,hl,_,hlen,R5,_,_⟩
 ·left;injection h0 with h0 _
  exact⟨none,0,h0,fun _=>rfl⟩
 ·injection xz with hv _
  subst hv;rcases Nat.eq_zero_or_pos len with rfl|R6
  ·exact .inl ⟨some a,cap,rfl,fun e=>by cases e⟩
  right;have IL:∀i,i<len->∃cs y,w.cells? base (a.add<|i*K) K=some cs/\DataW.trod enc P w base spare held n e cs=some y:=fun i hi=>by have he:=R5 i hi;rw[hK,List.getElem?_eq_getElem<|by omega] at he;obtain⟨cs,h1,h2⟩:=Option.bind_eq_some_iff.1 he;exact⟨cs,_,h1,h2⟩
  obtain⟨D8,_,h1,_⟩:=IL 0 R6;obtain⟨k1,k2⟩:=Gi h1;have lu:=k2 0 _ (List.getElem?_eq_getElem<|by omega);rw[Nat.zero_mul,add_zero,add_zero] at lu;have uA:a.spot=none:=World.cell?_spot lu;obtain⟨b,o,sp⟩:=a;simp only at uA;subst uA;unfold World.cell? at lu;simp only at lu;cases hb:w.heap[b]? with
  |none=>rw[hb] at lu;cases lu
  |some ob=>
   rw[hb] at lu;cases ob with
   |cells c el fr=>
    refine⟨b,o,len,cap,c,el,fr,(List.range len).map fun i=>(w.cells? base ((⟨b,o,none⟩:Addr).add<|i*K) K).getD [],rfl,hl,hb,by simp,fun i row dB=>?_⟩;have hi:i<len:=by have:=(List.getElem?_eq_some_iff.1 dB).1;simpa using this
    obtain⟨cs,y,h1,h2⟩:=IL i hi;rw[List.getElem?_map,List.getElem?_range hi,Option.map_some,h1] at dB;injection dB with dB
    have Py:cs=row:=dB;subst Py;obtain⟨k1,k2⟩:=Gi h1;refine⟨k1,⟨n,_,by omega,h2⟩,fun j x hx=>?_⟩;have:=k2 j x hx;rw[GR,GR] at this;unfold World.cell? at this;simp only[hb] at this;simpa using this
   |_=>cases lu
theorem Fe{β:Type}{K:Nat}:∀{l:List<|List β} {i:Nat} {x:β},(∀c∈l,c.length=K)->l.flatten[i]? =some x->∃q j row,l[q]? =some row/\row[j]? =some x/\i=q*K+j
 |[],i,x,_,h=>by simp at h
 |c::l,i,x,hl,h=>by
  have hc:=hl c List.mem_cons_self;rw[List.flatten_cons] at h;by_cases q:i<c.length
  ·rw[List.getElem?_append_left q] at h;exact⟨0,i,c,rfl,h,by omega⟩
  ·rw[List.getElem?_append_right<|by omega] at h;obtain⟨a,j,row,h1,h2,h3⟩:=Fe (fun c' h'=>hl c'<|List.mem_cons_of_mem _ h') h;exact⟨a+1,j,row,by simpa using h1,h2,by rw[Nat.add_mul,Nat.one_mul];omega⟩
def we{α:Type}(w:World)(aj:α->List AV)(Q:α->Prop)(row:List Value)(a:α)(ms:hI):Prop:=Q a/\Good w ms/\∀(j:Nat) (x:AV),(aj a)[j]? =some x->∃u,row[j]? =some u/\Is ms x u
theorem Ho{α:Type}{aj:α->List AV}{Q:α->Prop}:∀{rows:List<|List Value},(∀row∈rows,∃a ms,we w aj Q row a ms)->
 ∃(l:List α) (ms:hI),l.length=rows.length/\(∀a∈l,Q a)/\Good w ms/\∀(i:Nat) a row,l[i]? =some a->rows[i]? =some row->∀(j:Nat) (x:AV),(aj a)[j]? =some x->∃u,row[j]? =some u/\Is ms x u
 |[],_=>⟨[],[],rfl,(fun a ha=>by cases ha),Good.nil,(fun i a row h=>by simp at h)⟩
 |row::rows,h=>by
  obtain⟨a,ms,h1,h2,h3⟩:=h row List.mem_cons_self;obtain⟨l,ns,k1,k2,k3,k4⟩:=Ho (rows:=rows) fun r hr=>h r<|List.mem_cons_of_mem _ hr;refine⟨a::l,ms++ns,(by simp[k1]),fun b hb=>?_,h2.app k3,fun i b r hb hr j x hx=>?_⟩
  ·rcases List.mem_cons.1 hb with rfl|hb
   ·exact h1
   ·exact k2 b hb
  ·cases i with
   |zero=>simp at hb hr;subst hb;subst hr;obtain⟨u,e1,e2⟩:=h3 j x hx;exact⟨u,e1,e2.sub fun p hp=>List.mem_append_left _ hp⟩
   |succ i=>simp at hb hr;obtain⟨u,e1,e2⟩:=k4 i b r hb hr j x hx;exact⟨u,e1,e2.sub fun p hp=>List.mem_append_right _ hp⟩
theorem yN{α:Type}{K:Nat}{aj:α->List AV}{Q:α->Prop}(he:kh K aj)(zK:0<K){t e:TypeId}{fuel:Nat}{v:Value}{x:DataW H×List MemPlace}(ht:P.underlying t=some (.slice e))(hK:P.cellsOf e=K)(dB:∀row:List Value,row.length=K->(∃n y,n<fuel/\DataW.trod enc P w base spare held n e row=some y)->∃a ms,we w aj Q row a ms)(h:DataW.trod enc P w base spare held fuel t [v]=some x):
 ∃(l:List α) (ms:hI),(∀a∈l,Q a)/\Good w ms/\Is ms (az aj l) v:=by
 rcases Mh zK ht hK h with⟨a,cap,rfl,hz⟩|⟨b,o,len,cap,c,el,fr,rows,rfl,h2,h3,h4,h5⟩
 ·refine⟨[],[],(fun a ha=>by cases ha),Good.nil,fun σ _=>?_⟩;unfold az;simp only[VR];exact .inl ⟨aQ _,rfl,a,cap,rfl,hz,(fun e=>absurd e (v5 _).1),fun e=>absurd e (v5 _).2⟩
 ·obtain⟨l,ms,k1,k2,k3,k4⟩:=Ho (w:=w) (aj:=aj) (Q:=Q) (rows:=rows) fun row hr=>by obtain⟨i,hi⟩:=List.mem_iff_getElem?.1 hr;obtain⟨a1,a2,_⟩:=h5 i row hi;exact dB row a1 a2
  refine⟨l,(b,o,(l.map aj).flatten)::ms,k2,fun p hp=>?_,fun σ hh=>?_⟩
  ·rcases List.mem_cons.1 hp with rfl|hp
   ·refine⟨he.all l,c,el,fr,h3,fun i x hx=>?_⟩;obtain⟨q,j,row,e1,e2,e3⟩:=Fe (K:=K) (fun c' R7=>by obtain⟨a,_,rfl⟩:=List.mem_map.1 R7;exact he.len a) hx;rw[List.getElem?_map] at e1;cases ha:l[q]? with
    |none=>rw[ha] at e1;cases e1
    |some a=>
     rw[ha] at e1;injection e1 with e1
     subst e1;have hq:q<rows.length:=by have:=(List.getElem?_eq_some_iff.1 ha).1;omega
     obtain⟨u,g1,g2⟩:=k4 q a rows[q] ha (List.getElem?_eq_getElem hq) j x e2;obtain⟨_,_,g4⟩:=h5 q rows[q]<|List.getElem?_eq_getElem hq;exact⟨u,by rw[e3, ←Nat.add_assoc];exact g4 j u g1,fun σ hh=>g2 σ<|hh.sub fun p hp=>List.mem_cons_of_mem _ hp⟩
   ·obtain⟨h1,c',e',ko,jI,dJ⟩:=k3 p hp;exact⟨h1,c',e',ko,jI,fun i x hx=>by obtain⟨v,q1,q2⟩:=dJ i x hx;exact⟨v,q1,fun σ hh=>q2 σ<|hh.sub fun p hp=>List.mem_cons_of_mem _ hp⟩⟩
  ·unfold az;simp only[VR];refine .inr ⟨b,o,cap,.inr ⟨aQ _,?_⟩,?_,fun _=>⟨by omega,(v5 _).1⟩⟩
   ·have:=hh _ List.mem_cons_self;unfold dU;rw[if_pos<|eR _ _ _];exact this
   ·rw[Nat.add_zero,k1,h4]
end
open Classical in
noncomputable def jw(ms:hI)(ρ:ah):ah:=fun k=>if ρ k=none/\∃p∈ms,k=hn (nm p.2.2) p.1 p.2.1 then some (0,0) else ρ k
theorem yO{ms:hI}{ρ:ah}:ρ.le<|jw ms ρ:=fun k x e=>by unfold jw;rw[if_neg (fun q=>by rw[e] at q;cases q.1)];exact e
theorem Bs{ms:hI}{ρ:ah}{k:Nat}(hk:k<top):jw ms ρ k=ρ k:=by unfold jw;rw[if_neg (fun⟨_,p,_,q⟩=>by have:=eR (nm p.2.2) p.1 p.2.1;omega)]
theorem Gj{ms:hI}{ρ:ah}:Has (jw ms ρ) ms:=fun p hp=>by
 unfold jw;by_cases q:ρ (hn (nm p.2.2) p.1 p.2.1)=none
 ·rw[if_pos ⟨q,p,hp,rfl⟩];exact fun h=>by cases h
 ·rw[if_neg fun z=>q z.1];exact q
theorem Start.Pz(B:aC){J:Nat}{h0:Tr U}{ρ:ah}{w:World}{ms:hI}(S:Start J h0 ρ w)(ht:J<=top)(hg:Good w ms):Rel ⟨fun k=>w.heap.size<=k,FU,fun _=>True,B.inv,w.heap.size,B.mono⟩ (jw ms ρ) h0 w:=by
 have r:=S.rel ht;refine⟨fun n o hn h=>?_,fun n m o p b N M hn hm h1 h2 b8 e1 e2=>?_,fun n m es ex left cur hn h=>?_,r.size,r.lone,fun n b sh e=>?_,nk.no (fun n k v hn hg=>by have:=(S.is n _ hn hg).1;cases this) ⟨Nat.le_refl _,fun n o hn hg _=>by obtain⟨_,b,N,o',h1,h2,_⟩:=S.is n o hn hg;exact⟨b,N,yO _ _ h1,ff h2⟩⟩⟩
 ·obtain⟨b,N,o',h1,h2,h3,h4⟩:=r.is n o hn h;exact⟨b,N,o',yO _ _ h1,h2,h3.mono yO,h4⟩
 ·rw[Bs hn] at e1;rw[Bs hm] at e2;exact r.one n m o p b N M hn hm h1 h2 b8 e1 e2
 ·have:=(S.is n _ hn h).1;cases this
 ·refine⟨.inl trivial,?_⟩;have eX:ρ (hn n b sh)=Option.none:=S.free _<|Nat.le_trans ht<|eR _ _ _;unfold jw at e;split at e
  ·rename_i q;obtain⟨_,p,hp,q⟩:=q;obtain⟨rfl,rfl,rfl⟩:=B8 q;obtain⟨h1,c,el,fr,h2,h3⟩:=hg p hp;refine⟨p.2.2,c,el,fr,CV h1,h2,fun m o N hm ho bY=>?_,fun i x hx=>?_⟩
   ·rw[U.gO (S.is m o hm ho).1] at bY;cases bY
   ·obtain⟨v,q1,q2⟩:=h3 i x hx;exact⟨v,q1,q2 _ Gj,Bq<|List.all_eq_true.1 h1 x<|List.mem_of_getElem? hx⟩
  ·exact absurd eX e
end Go.Rn
open Go
namespace Go.Rn
section
variable {X:TX} {P:Program} {J:Nat} {ns:List Nat} {h0:Tr U} {L:bZ} {g:Nat} {fn:Func} {body:Code}
theorem Lt{cx:FuncId->Nat}(hw:∀B,Cd P B cx)(hP:dp P)(oQ:fw<=J)(fP:J<=top)(fp:∀n o,n<top->h0.get n=some o->n∈ns)(ga:∀n∈ns,n<J){val:List AV->Option AV}(h:gR X J P<|ed J ns h0 L)(cw:P.funcs[g]? =some fn)(cV:fn.body=some body)(dX:(fn.name == "runtime.NumGoroutine")=false)(gF:∀args v,val args=some v->∃n s1,nf P cx n (.fn g) args ⟨h0,J,0,[],[]⟩= .ok v s1):gR X J P<|ed J ns h0<|(g,.val val)::L:=by
 refine(show gR X J P (ue (ed J ns h0 L) g<|kN J ns h0 val) from h.lq (fun Sy _ args=>Sx.kN _ _ _ _ Sy args) fun B hB hT Sy hc hl args x s s1 ρ w vs fi r hg hf hm hv=>?_);unfold kN at hm;obtain⟨fE,h1⟩:=bM hm;obtain⟨u,s2,h2,h3⟩:=M.aI h1;obtain⟨v,h4,h5⟩:=aX h3;obtain⟨h6,h7⟩:=bM h5;obtain⟨rfl,rfl⟩:=aM h7;obtain⟨a1,a2,a3⟩:=ya h2;obtain⟨n,s4,q⟩:=gF _ _ h4;have uh:=CW fP r fp ga (fun n hn=>by obtain⟨_,o,p,h⟩:=a3 n hn;exact⟨o,p,h⟩);have fi:aO (⟨h0,J,0,[],[]⟩:AS):=⟨Nat.zero_le _,fP⟩;have D1:dN<|gG J ρ:=fun g lB=>by obtain⟨N,e⟩:=hg g lB;exact⟨N,by unfold gG;rw[if_pos<|Nat.lt_of_lt_of_le lB oQ];exact e⟩
 have bd:=(Gt (B:=v7 B ρ w) hP (hw _) n).fn g args x ⟨h0,J,0,[],[]⟩ s4 (gG J ρ) w vs fi uh D1 (fun k k1 _ k2=>by
  have k1:J<=k:=k1;unfold gG dU;rw[if_neg (by omega),if_neg<|by omega])
  q (AV.Ch (fun k y hk e=>by rw[tu fP hk];exact e) fE hv)
 rw[AI cw cV dX] at bd ⊢;have bd:Calls P g vs w _:=bd;show Calls P g vs w _;refine bd.mono fun e w'=>?_;rintro ⟨y,rfl,σ,e1,e2,e3,e4⟩;obtain⟨b1,b2,b3,b4⟩:=HI (a:=s.nx) fP r e3 e4 e1.le;exact⟨y,rfl,du ρ σ,by rw[a2];exact b1,AV.tP b2 h6 e2,by rw[a1];exact b3,b4⟩
end
end Go.Rn
namespace Go.Rn
open Go.RowKit
theorem Start.PE{J:Nat}{h:Tr U}{ρ:ah}{W:World}{g m:Nat}{t:Tr AV}{c:Array Value}{ty:TypeId}{fr:Nat×Nat}(S:Start J h ρ W)(DD:g<top)(eY:ρ g=some (g,c.size))(hW:W.heap[g]? =some (.cells c ty fr))(hm:m=c.size)(row:∀i,i<m->∃x v,t.get i=some x/\x.bB=true/\c[i]? =some v/\VR ρ x v):Start J (h.put g<|some<|.ro m t) ρ W:=by
 refine⟨S.g,S.free,fun n o hn ho=>?_⟩;rw[Tr.cJ _ _ _ _ DD hn] at ho;by_cases q:n=g
 ·subst q;rw[if_pos rfl] at ho;injection ho with ho;subst ho
  exact⟨rfl,n,c.size,_,eY,hW,c,ty,fr,rfl,rfl,hm,row⟩
 ·rw[if_neg q] at ho;exact S.is n o hn ho
noncomputable section
end
theorem Start.Sz{J:Nat}{h:Tr U}{ρ:ah}{W:World}{g:Nat}{c:Array Value}{ty:TypeId}{fr:Nat×Nat}(S:Start J h ρ W)(low:∀k,k<fw->ρ k=Gu W k)(hg:g<fw)(hW:W.heap[g]? =some (.cells c ty fr))(l:List AV)(hl:l.length<=top)(hs:l.length=c.size)(row:∀(i:Nat) x,l[i]? =some x->x.bB=true/\∃v,c[i]? =some v/\VR ρ x v):Start J (h.put g<|some<|.ro l.length<|Tr.fill l 0 .nil) ρ W:=by
 refine S.PE (Nat.lt_of_lt_of_le hg (by unfold fw top;decide)) ?_ hW hs fun i hi=>?_
 ·rw[low g hg];unfold Gu;rw[if_pos hg,hW]
 ·obtain⟨x,hx⟩:∃x,l[i]? =some x:=⟨l[i],List.getElem?_eq_getElem hi⟩;obtain⟨h1,v,h2,h3⟩:=row i x hx;exact⟨x,v,by rw[MO _ hl i hi];exact hx,h1,h2,h3⟩
end Go.Rn
