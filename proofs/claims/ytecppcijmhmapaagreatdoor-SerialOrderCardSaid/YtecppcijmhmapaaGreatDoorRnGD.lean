import Derived.Test.YtecppcijmhmapaaGreatDoorRnGC
import Derived.ChangeArms
import Derived.ChangeShapes
import Derived.DataReads
import Derived.Test.YtecppcijmhmapaaGreatDoorRnGB
import Derived.OpenShut
set_option maxRecDepth 100000
set_option maxHeartbeats 8000000
set_option linter.unusedSimpArgs false
set_option linter.unusedVariables false
namespace Go.Rn
open Go.RowKit
noncomputable def eN(n:Nat)(o:Option U):M Unit:=fun s=>
 @AS.rec (fun _=>R Unit) (fun h nx mark rd wr=>
  @Bool.rec (fun _=>R Unit) .bad
   (@Option.rec U (fun _=>R Unit) .bad
    (fun p=> @Bool.rec (fun _=>R Unit)
     (@Bool.rec (fun _=>R Unit) (.ok () ⟨h.put n o,nx,mark,rd,wr⟩) (.ok () ⟨h.put n o,nx,mark,n::rd,n::wr⟩)<|Nat.blt n mark)
     .bad (!p.mb))
    (h.get n))
   (and (Nat.blt n nx)<|Nat.blt n top)) s
section
variable {P:Program} {B:aH} {ρ:aj} {w:World} {s s1 s2:AS} {U7:aJ}
theorem bw.QM{eB:Nat}(hP:du P){g:FuncId}{fn:Func}{body:Code}{args:List AV}{vs:Array Value}{R:AV->AS->Prop}(cI:P.funcs[g]? =some fn)(di:fn.body=some body)(jz:max fn.ntmps args.length<=top)(H:bw P B eB (Fin P fn.results.toList R) ⟨g,bG args,max fn.ntmps args.length,[.code body],[],none⟩ s)(fi:aS s)(r:Rel B ρ s.h w)(hg:eh ρ)(hf:∀k,s.nx<=k->k<top->ρ k=none)(hv:av ρ args vs.toList):
 Calls P g vs w fun e w'=>∃v x s3,e= .returned v/\R x s3/\aS s3/\∃σ,(∀k,k<eB->k<top->σ k=ρ k)/\(∀k x,top<=k->ρ k=some x->σ k=some x)/\VR σ x v/\Rel B σ s3.h w'/\bp B w w':=by
 intro cs;let b:Frame:={(default:Frame) with fn:=g,kind:=.normal,roundOf:=none};let a:Act:={tmps:=vs++Array.replicate (fn.ntmps - vs.size) undef,defers:=[]};have ll:Frame.enter P g vs .normal=b.atR a [.code body]:=by simp[Frame.enter,Frame.atR,cI,di,b,a]
 have aY:Fr ρ ⟨g,bG args,max fn.ntmps args.length,[.code body],[],none⟩ b a:=⟨rfl,rfl,trivial,rfl,.cons (hP.code g fn body cI di) .nil⟩;have aC:At B ρ s (max fn.ntmps args.length) (bG args) w a:=⟨wD hv _ jz,r,hg,jz,fi⟩;obtain⟨fr,j,s2,σ,a',w',⟨x,s3,jy,hR⟩,en,e0,Fp,e1,e2,e3,e4,e5,e6,e7,e8⟩:=H ρ w b a cs aY aC hf;have Ec:finish P fn.results.toList fr j s2= .ok x s3:=by rw[zU];exact jy
 have rj:aS s2:=e2.bo;obtain⟨hj,u2,s4,rs,h7,h9,hx⟩:=wM Ec;have gW:aS s4:=(U5.jj _).bo rj h7;have jd:Leaves j fr.todo:=e7;obtain⟨d1,d2,w2,d3,d4,d5⟩:=uo (P:=P) (fr:=b) (cs:=cs) rj e2.rel e3 h7;obtain⟨f1,f2,us,f3,f4⟩:=um (P:=P) (w:=w2) e2.tr gW d3 h9;have fE:aS s3:=(U5.kW P fr.tmps _).bo gW h9;have om:Steps P (lone (b.atR a' fr.todo) cs w')<|lone {b.atR a' fr.todo with mode:=.returning} cs w':=by
  rcases hj with rfl|rfl
  ·have e:fr.todo=[]:=jd;rw[e];exact .one<|stepR_end rfl
  ·obtain⟨k,e⟩:=jd;rw[e];exact .one<|stepR_ret rfl
 have lr:=d5 {b.atR a' fr.todo with mode:=.returning} cs (by simp) rfl;have jU:(results fn a'.tmps).run P w2= .ok (fK us) w2:=by
  unfold results;rw[Array.mapM_eq_mapM_toList];simp only[Sem.run_bind,map_eq_pure_bind,Sem.run_pure];refine Eq.trans (congrArg (fun r:Result (List Value)=>(r.andThen fun a w'=>Result.ok a.toArray w').andThen fun a w'=>Result.ok (if h:a.size=1 then a[0] else Value.tuple a) w') f3) ?_;have:∀l:List Value,(Result.ok (if h:l.toArray.size=1 then l.toArray[0] else Value.tuple l.toArray) w2:Result Value)= .ok (fK l) w2:=by
   intro l
   match l with
   |[]=>rfl
   |[v]=>rfl
   |v::v2::l=>simp[fK]
  exact this us
 refine⟨.returned<|fK us,w2,{b.atR a' fr.todo with mode:=.returning,defers:=[]},⟨_,x,s3,rfl,hR,fE,σ,e0,Fp,?_⟩,?_,rfl,?_⟩
 ·exact⟨by rw[hx];exact wV f4,by rw[f1];exact d3,e4.trans d4⟩
 ·rw[ll];exact Steps.trans e8<|Steps.trans om lr
 ·exact⟨rfl,rfl,rfl,fn,cI,jU⟩
end
abbrev TX:=Nat->AV->List (Nat×U)->Prop
def Bk(loc ρ:aj):aj:=fun m=>if top<=m then ρ m else loc m
theorem Oj{loc ρ σ:aj}(h:∀m x,top<=m->ρ m=some x->σ m=some x):(Bk loc ρ).le<|Bk loc σ:=by
 intro k x e;unfold Bk at e ⊢;split at e
 ·rename_i q;rw[if_pos q];exact h k x q e
 ·rename_i q;rw[if_neg q];exact e
inductive oq (X:TX) (ae:Nat):Nat->AV->aj->World->Nat->(Nat->Prop)->Prop where
 | mk {k:Nat} {v:AV} {ρ:aj} {w:World} {b:Nat} {H:Nat->Prop} (L:List<|Nat×U) (loc:aj) (bl:Nat->Nat) (H1:Nat->Nat->Prop) (N0:Nat)
   (hx:X k v L) (root:loc ae=some (b,N0)) (low:∀m,m<ae->loc m=none)
   (is:∀m o,(m,o)∈L->∃N o',loc m=some (bl m,N)/\w.heap[bl m]? =some o'/\OR (Bk loc ρ) N o o'/\H (bl m))
   (one:∀m n o p,(m,o)∈L->(n,p)∈L->bl m=bl n->m=n)
   (tok:∀m k' v',(m,U.tok k' v')∈L->oq X ae k' v' ρ w (bl m) (H1 m))
   (J4:∀m k' v',(m,U.tok k' v')∈L->H1 m (bl m))
   (sub:∀m k' v',(m,U.tok k' v')∈L->∀x,H1 m x->H x)
   (own:∀m k' v' n o,(m,U.tok k' v')∈L->(n,o)∈L->o.mb=false->¬H1 m (bl n))
   (apart:∀m k' v' n Ln y8 x,(m,U.tok k' v')∈L->(n,U.tok Ln y8)∈L->m≠n->H1 m x->¬H1 n x):oq X ae k v ρ w b H
theorem oq.mono{X:TX}{ae k:Nat}{v:AV}{ρ:aj}{w:World}{b:Nat}{H:Nat->Prop}(h:oq X ae k v ρ w b H):∀{σ:aj} {w':World},(∀m x,top<=m->ρ m=some x->σ m=some x)->(∀x,H x->w'.heap[x]? =w.heap[x]?)->oq X ae k v σ w' b H:=by
 induction h with
 |mk L loc bl H1 N0 hx root low is one tok J4 sub own apart ih=>intro σ w' hm hw;refine .mk L loc bl H1 N0 hx root low (fun m o pU=>?_) one (fun m k' v' pU=>ih m k' v' pU hm fun x q=>hw x<|sub m k' v' pU x q) J4 sub own apart;obtain⟨N,o',a1,a2,a3,a4⟩:=is m o pU;exact⟨N,o',a1,(hw _ a4).trans a2,a3.mono<|Oj hm,a4⟩
def RO(ns:List Nat)(o:U):Prop:=∀(σ:aj) (N:Nat) (o':Obj),OR σ N o o'->OR (fun m=>if top<=m\/m∈ns then σ m else none) N o o'
structure T4 (X:TX) (ae:Nat):Prop where
 nm:∀k v L,X k v L->∀p∈L,ae<=p.1/\p.1<top/\(p.2.own=true\/p.2.mb=true)/\RO (L.map (·.1)) p.2
 root:∀k v L,X k v L->∃o,(ae,o)∈L
theorem HS{n:Nat}:∀{L:List<|Nat×U},(∀p∈L,p.1<n)->∀p∈pc L,p.1<n
 |[],_,p,hp=>by cases hp
 |a::l,h,p,hp=>by
  rcases List.mem_cons.1 hp with rfl|hp
  ·exact h a List.mem_cons_self
  ·exact HS (fun q hq=>h q<|List.mem_cons_of_mem _ hq) p hp
end Go.Rn
namespace Go.Rn
open Go.RowKit
noncomputable section
def SL(ae:Nat)(ns:List Nat)(h0:Tr U)(k:Nat)(val:AV->List AV->Option (AV×AV)):aJ->List AV->M AV:=fun _ args=>
 match args with
 | .ptr (some (n,0))::rest=>aB (rest.all AV.hi&&Nat.ble ae n) <| (gM ae h0 ns).bind fun _=>(a9 n).bind fun o=>match o with
  | .tok k' v=>aB (Nat.beq k k') <| aG (val v rest) fun p=>aB p.1.hi <| (eN n<|some<|.tok k p.2).bind fun _=>M.pure p.1
  |_=>fail
 |_=>fail
end
def AX(B:aH)(ρ:aj)(w:World)(H:Nat->Prop):aH:=⟨fun x=>w.heap.size<=x\/H x,B.F,fun m=>ρ m≠none,B.inv,B.pI,B.mono⟩
end Go.Rn
namespace Go.Rn
open Go.RowKit
end Go.Rn
namespace Go.Rn
open Go.RowKit
end Go.Rn
namespace Go.Rn
open Go.RowKit
end Go.Rn
namespace Go.Rn
open Go.RowKit
noncomputable section
def SM(ae:Nat)(ns:List Nat)(h0:Tr U)(k:Nat)(val:List AV->Option (Option AV×(AV->AV))):aJ->List AV->M AV:=fun _ args=>
 aB (args.all AV.hi) <| (gM ae h0 ns).bind fun _=>aG (val args) fun p=>match p.1 with
  |none=>aB (p.2<|.ptr none).hi <| M.pure<|p.2<|.ptr none
  |some v=>(cZ<|.tok k v).bind fun n=>M.pure<|p.2<|.ptr<|some (n,0)
end
end Go.Rn
namespace Go.Rn
open Go.RowKit
theorem PU{s:AS}{n:Nat}{o:Option U}{p:U}(h1:Nat.blt n s.nx=true)(h2:s.h.get n=some p)(h3:p.mb=true)(ht:Nat.blt n top=true):eN n o s= .ok () (eY n o s):=by obtain⟨hh,nx,mark,rd,wr⟩:=s;have e1:(Nat.blt n nx&&Nat.blt n top)=true:=and_true.2 ⟨h1,ht⟩;have e2:hh.get n=some p:=h2;show @Bool.rec (fun _=>R Unit) .bad (@Option.rec U (fun _=>R Unit) .bad (fun p=> @Bool.rec (fun _=>R Unit) (@Bool.rec (fun _=>R Unit) (.ok () ⟨hh.put n o,nx,mark,rd,wr⟩) (.ok () ⟨hh.put n o,nx,mark,n::rd,n::wr⟩)<|Nat.blt n mark) .bad<|!p.mb)<|hh.get n) (Nat.blt n nx&&Nat.blt n top)=_;rw[e1,e2];show @Bool.rec (fun _=>R Unit) (@Bool.rec (fun _=>R Unit) (.ok () ⟨hh.put n o,nx,mark,rd,wr⟩) (.ok () ⟨hh.put n o,nx,mark,n::rd,n::wr⟩)<|Nat.blt n mark) .bad (!p.mb)=_;rw[h3];show @Bool.rec (fun _=>R Unit) (.ok () ⟨hh.put n o,nx,mark,rd,wr⟩) (.ok () ⟨hh.put n o,nx,mark,n::rd,n::wr⟩) (Nat.blt n mark)= .ok () (@Bool.rec (fun _=>AS) ⟨hh.put n o,nx,mark,rd,wr⟩ ⟨hh.put n o,nx,mark,n::rd,n::wr⟩<|Nat.blt n mark);cases Nat.blt n mark<;>rfl
noncomputable section
inductive KE where
 |val (v:List AV->Option AV)
 |tok (k:Nat) (v:AV->List AV->Option (AV×AV))
 |new (k:Nat) (v:List AV->Option (Option AV×(AV->AV)))
 |raw (m:Nat->List Nat->Tr U->aJ->List AV->M AV)
abbrev bY:=List<|FuncId×KE
def KE.m(ae:Nat)(ns:List Nat)(h0:Tr U):KE->aJ->List AV->M AV
 | .val v=>l9 ae ns h0 v
 | .tok k v=>SL ae ns h0 k v
 | .new k v=>SM ae ns h0 k v
 | .raw m=>m ae ns h0
def eZ(ae:Nat)(ns:List Nat)(h0:Tr U):bY->Sp
 |[]=>fun _=>none
 |p::l=>fun f=>bif Nat.beq f p.1 then some (p.2.m ae ns h0) else eZ ae ns h0 l f
def EM(val:AV->List AV->Option (AV×AV))(v:AV)(rest:List AV):Option<|AV×AV:=match rest.all AV.hi with
 |true=>(val v rest).bind fun p=>match p.1.hi with
  |true=>some p
  |false=>none
 |false=>none
def EN(val:List AV->Option (Option AV×(AV->AV)))(args:List AV):Option<|Option AV×(AV->AV):=match args.all AV.hi with
 |true=>(val args).bind fun p=>match p.1 with
  |none=>match (p.2<|.ptr none).hi with
   |true=>some p
   |false=>none
  |some _=>some p
 |false=>none
def vx:bY->FuncId->Option KE
 |[]=>fun _=>none
 |p::l=>fun f=>bif Nat.beq f p.1 then some p.2 else vx l f
def KE.v1:KE->Option (List AV->Option AV)
 | .val v=>some<|kH v
 |_=>none
def KE.v2:KE->Option (Nat×(AV->List AV->Option (AV×AV)))
 | .tok k v=>some (k,EM v)
 |_=>none
def KE.v3:KE->Option (Nat×(List AV->Option (Option AV×(AV->AV))))
 | .new k v=>some (k,EN v)
 |_=>none
def Bm{α β:Type}(o:Option α)(f:α->Option β):Option β:=match o with
 |some a=>f a
 |none=>none
def Bn(P:Program)(ae:Nat)(ns:List Nat)(h0:Tr U)(L:bY)(lo:Nat)(fg:Bool):Env:=⟨P,eZ ae ns h0 L,FU,fun g=>Bm (vx L g) KE.v1,fun _=>false,yk ae h0 ns,mm ae h0 ns,lo,fg,fun g=>Bm (vx L g) KE.v2,fun g=>Bm (vx L g) KE.v3,ae⟩
end
theorem Ae{ae:Nat}{ns:List Nat}{h0:Tr U}:∀{L:bY} {g:FuncId} {e:KE},vx L g=some e->eZ ae ns h0 L g=some (e.m ae ns h0)
 |[],g,e,h=>by cases h
 |p::l,g,e,h=>by
  unfold vx at h;unfold eZ;cases q:Nat.beq g p.1 with
  |true=>rw[q] at h;injection h with h;rw[h];rfl
  |false=>rw[q] at h;exact Ae h
theorem C8{α β:Type}{o:Option α}{f:α->Option β}{b:β}(h:Bm o f=some b):∃a,o=some a/\f a=some b:=by
 cases o with
 |none=>cases h
 |some a=>exact⟨a,rfl,h⟩
theorem uR{P:Program}{ae:Nat}{ns:List Nat}{h0:Tr U}{L:bY}{lo:Nat}{fg:Bool}:(Bn P ae ns h0 L lo fg).Ok:=by
 refine⟨fun g val args v s n h1 h2 h3=>?_,fun g q m v rest y v' s n h1 h2 h3 h4 h5 h6 h7=>?_,fun g q args v res s n h1 h2 h3 h4=>?_,fun g h=>(by cases h)⟩
 ·obtain⟨e,k1,k2⟩:=C8 h1;have k3:=Ae (ae:=ae) (ns:=ns) (h0:=h0) k1;cases e with
  |val v0=>
   injection k2 with k2;subst k2
   show gX P (eZ ae ns h0 L) g (br P (eZ ae ns h0 L) FU n) args s=_;rw[sP k3];exact Oi (U7:=br P (eZ ae ns h0 L) FU n) h2 h3
  |tok k v0=>cases k2
  |new k v0=>cases k2
  |raw m0=>cases k2
 ·obtain⟨e,k1,k2⟩:=C8 h1;have k3:=Ae (ae:=ae) (ns:=ns) (h0:=h0) k1;cases e with
  |val v0=>cases k2
  |new k v0=>cases k2
  |raw m0=>cases k2
  |tok k v0=>
   injection k2 with k2;subst k2
   show gX P (eZ ae ns h0 L) g (br P (eZ ae ns h0 L) FU n) (.ptr (some (m,0))::rest) s=_;rw[sP k3];have h7:EM v0 v rest=some (y,v'):=h7;unfold EM at h7;cases e1:rest.all AV.hi with
   |false=>rw[e1] at h7;cases h7
   |true=>
    rw[e1] at h7;cases e2:v0 v rest with
    |none=>rw[e2] at h7;cases h7
    |some p=>
     rw[e2] at h7;have h7:(match p.1.hi with|true=>some p|false=>none)=some (y,v'):=h7;cases e3:p.1.hi with
     |false=>rw[e3] at h7;cases h7
     |true=>
      rw[e3] at h7;injection h7 with h7
      subst h7;show(aB (rest.all AV.hi&&Nat.ble ae m) <| (gM ae h0 ns).bind fun _=>(a9 m).bind fun o=>match o with
       | .tok k' v=>aB (Nat.beq k k') <| aG (v0 v rest) fun p=>aB p.1.hi <| (eN m<|some<|.tok k p.2).bind fun _=>M.pure p.1
       |_=>fail) s=_
      have h3:Nat.ble ae m=true:=h3;have h4:Nat.blt m (mm ae h0 ns s).nx=true:=h4;have h6:(mm ae h0 ns s).h.get m=some (.tok k v):=h6;rw[e1,h3,(show(true&&true)=true from rfl),bD,M.bg<|xx h2,M.bg<|ko h4 h6];show(aB (Nat.beq k k) <| aG (v0 v rest) fun p=>aB p.1.hi <| (eN m<|some<|.tok k p.2).bind fun _=>M.pure p.1) (aN m<|mm ae h0 ns s)=_;rw[cC.2 rfl,bD,e2,aO,e3,bD,M.bg<|PU (p:=.tok k v) (by rw[(fW m _).2.1];exact h4) (by rw[(fW m _).1];exact h6) rfl h5];rfl
 ·obtain⟨e,k1,k2⟩:=C8 h1;have k3:=Ae (ae:=ae) (ns:=ns) (h0:=h0) k1;cases e with
  |val v0=>cases k2
  |tok k v0=>cases k2
  |raw m0=>cases k2
  |new k v0=>
   injection k2 with k2;subst k2
   show gX P (eZ ae ns h0 L) g (br P (eZ ae ns h0 L) FU n) args s=_;rw[sP k3];have h4:EN v0 args=some (v,res):=h4;unfold EN at h4;cases e1:args.all AV.hi with
   |false=>rw[e1] at h4;cases h4
   |true=>
    rw[e1] at h4;cases e2:v0 args with
    |none=>rw[e2] at h4;cases h4
    |some p=>
     obtain⟨st,r⟩:=p;rw[e2] at h4;show(aB (args.all AV.hi) <| (gM ae h0 ns).bind fun _=>aG (v0 args) fun p=>match p.1 with
      |none=>aB (p.2<|.ptr none).hi <| M.pure (p.2<|.ptr none)
      |some v=>(cZ<|.tok k v).bind fun n=>M.pure<|p.2<|.ptr<|some (n,0)) s=_
     rw[e1,bD,M.bg<|xx h2,e2,aO];cases st with
     |none=>
      have h4:(match (r<|.ptr none).hi with|true=>some ((none:Option AV),r)|false=>none)=some (v,res):=h4;cases e3:(r<|.ptr none).hi with
      |false=>rw[e3] at h4;cases h4
      |true=>
       rw[e3] at h4;injection h4 with h4
       injection h4 with h5 h6
       subst h5;subst h6;show aB true (M.pure<|r<|.ptr none) _=_;rw[bD];rfl
     |some v1=>
      have h4:some (some v1,r)=some (v,res):=h4;injection h4 with h4
      injection h4 with h5 h6
      subst h5;subst h6;show((cZ<|.tok k v1).bind fun n=>M.pure<|r<|.ptr<|some (n,0)) _=_;have h3:Nat.blt (mm ae h0 ns s).nx top=true:=h3;rw[M.bg<|An<|(blt_eq _ _).mp h3];rfl
end Go.Rn
namespace Go.Rn
open Go.RowKit
theorem M6{P:Program}{B:aH}{f ae:Nat}{ns:List Nat}{h0:Tr U}{val:List AV->Option AV}{fn:Func}{body:Code}{ρ:aj}{w:World}{s s1:AS}(hP:du P)(cI:P.funcs[f]? =some fn)(di:fn.body=some body)(eT:(fn.name == "runtime.NumGoroutine")=false)(pV:gj<=ae)(gG:ae<=top)(ga:∀n o,n<top->h0.get n=some o->n∈ns)(gT:∀n∈ns,n<ae)(iG:∀args v,val args=some v->max fn.ntmps args.length<=top/\∀B':aH,B'.F=B.F->B'.inv=B.inv->bw P B' ae (Fin P fn.results.toList fun y _=>y=v) ⟨f,bG args,max fn.ntmps args.length,[.code body],[],none⟩ ⟨h0,ae,0,[],[]⟩){U7:aJ}{args:List AV}{x:AV}{vs:Array Value}(r:Rel B ρ s.h w)(hg:eh ρ)(h:l9 ae ns h0 val U7 args s= .ok x s1)(hv:av ρ args vs.toList):fZ P ((callFunc f vs).run P w)<|gC B ρ s s1 w x:=by
 unfold l9 at h;obtain⟨gv,h1⟩:=bP h;obtain⟨u,s2,h2,h3⟩:=M.aL h1;obtain⟨v,h4,h5⟩:=bd h3;obtain⟨h6,h7⟩:=bP h5;obtain⟨rfl,rfl⟩:=aQ h7;obtain⟨a1,a2,a3⟩:=zC h2;obtain⟨q1,q2⟩:=iG _ _ h4;have vQ:=Em gG r ga gT (fun n hn=>by obtain⟨_,o,p,h⟩:=a3 n hn;exact⟨o,p,h⟩);have fi:aS (⟨h0,ae,0,[],[]⟩:AS):=⟨Nat.zero_le _,gG⟩;have Fw:eh<|iI ae ρ:=fun g mJ=>by obtain⟨N,e⟩:=hg g mJ;exact⟨N,by unfold iI;rw[if_pos<|Nat.lt_of_lt_of_le mJ pV];exact e⟩
 have bh:=bw.calls (B:=xN B ρ w) (s:=⟨h0,ae,0,[],[]⟩) (args:=args) (vs:=vs) hP cI di q1 (q2 _ rfl rfl) fi vQ Fw (fun k k1 k2=>by
  have k1:ae<=k:=k1;unfold iI eL;rw[if_neg (by omega),if_neg<|by omega])
  (AV.DH (fun k y hk e=>by rw[uP gG hk];exact e) gv hv)
 rw[B9 cI di eT];show Calls P f vs w _;refine bh.mono fun e w'=>?_;rintro ⟨y,x',s4,rfl,rfl,_,_,σ,e1,e2,e3,e4⟩;obtain⟨b1,b2,b3,b4⟩:=Jw (a:=s.nx) gG r e3 e4 e1.le;exact⟨y,rfl,dI ρ σ,by rw[a2];exact b1,AV.vu b2 h6 e2,by rw[a1];exact b3,b4⟩
def iU(X:TX)(ae:Nat)(P:Program)(sp:Sp):Prop:=∀B:aH,B.F=FU->B.inv=oq X ae->Be P B sp
theorem iU.bB{X:TX}{ae:Nat}{P:Program}{sp:Sp}{g:FuncId}{m:aJ->List AV->M AV}(h:iU X ae P sp)(hl:∀U7:aJ,(∀t a,U5<|U7 t a)->∀args,U5<|m U7 args)(hs:∀B:aH,B.F=FU->B.inv=oq X ae->∀U7:aJ,dD P B U7->(∀t a,U5<|U7 t a)->∀(args:List AV) (x:AV) (s s1:AS) (ρ:aj) (w:World) (vs:Array Value),aS s->Rel B ρ s.h w->eh ρ->bL s.nx s1.nx ρ->
 m U7 args s= .ok x s1->av ρ args vs.toList->fZ P ((callFunc g vs).run P w) (gC B ρ s s1 w x)):iU X ae P<|vN sp g m:=by
 intro B hB hT;refine⟨fun f m' e U7 jH args=>?_,fun f m' e U7 hc jH args x s s1 ρ w vs fi r hg hf hm hv=>?_⟩
 ·rcases Hh e with⟨_,rfl⟩|e
  ·exact hl U7 jH args
  ·exact(h B hB hT).loc f m' e U7 jH args
 ·rcases Hh e with⟨rfl,rfl⟩|e
  ·exact hs B hB hT U7 hc jH args x s s1 ρ w vs fi r hg hf hm hv
  ·exact(h B hB hT).yZ f m' e U7 hc jH args x s s1 ρ w vs fi r hg hf hm hv
section
variable {X:TX} {P:Program} {ae:Nat} {ns:List Nat} {h0:Tr U} {kn:List<|Nat×Option U} {L L':bY} {g k:Nat} {fn:Func} {body:Code}
theorem gO:iU X ae P<|eZ ae ns h0 []:=fun _ _ _=>⟨fun f m h=>(by cases h),fun f m h=>(by cases h)⟩
def Bo(X:TX)(P:Program)(ae:Nat)(ns:List Nat)(h0:Tr U)(L:bY)(B:aH):Prop:=B.F=FU/\B.inv=oq X ae/\dD P B (br P (eZ ae ns h0 L) FU 6)/\∀t a,U5<|br P (eZ ae ns h0 L) FU 6 t a
theorem EO(hP:du P)(h':iU X ae P<|eZ ae ns h0 L){B:aH}(h1:B.F=FU)(h2:B.inv=oq X ae):Bo X P ae ns h0 L B:=⟨h1,h2,HH hP (h' B h1 h2) h1 6,uv P (h' B h1 h2) FU 6⟩
theorem PV(hP:du P)(pV:gj<=ae)(gG:ae<=top)(ga:∀n o,n<top->h0.get n=some o->n∈ns)(gT:∀n∈ns,n<ae){val:List AV->Option AV}(h:iU X ae P<|eZ ae ns h0 L)(h':iU X ae P<|eZ ae ns h0 L')(cI:P.funcs[g]? =some fn)(di:fn.body=some body)(eT:(fn.name == "runtime.NumGoroutine")=false)(iG:∀args v,val args=some v->max fn.ntmps args.length<=top/\∀B:aH,Bo X P ae ns h0 L' B->
 bw P B ae (Fin P fn.results.toList fun y _=>y=v) ⟨g,bG args,max fn.ntmps args.length,[.code body],[],none⟩ ⟨h0,ae,0,[],[]⟩):iU X ae P<|eZ ae ns h0<|(g,.val val)::L:=by
 refine(show iU X ae P (vN (eZ ae ns h0 L) g<|l9 ae ns h0 val) from h.bB (fun U7 _ args=>U5.l9 _ _ _ _ U7 args) fun B hB hT U7 hc hl args x s s1 ρ w vs fi r hg hf hm hv=>?_);refine M6 hP cI di eT pV gG ga gT (fun args v e=>?_) r hg hm hv;obtain⟨q1,q2⟩:=iG args v e;exact⟨q1,fun B' Fx Fy=>q2 B'<|EO hP h' (Fx.trans hB)<|Fy.trans hT⟩
end
end Go.Rn
namespace Go.Rn
open Go.RowKit
abbrev Vw:=List<|Nat×Nat×U
def vy(L:Vw)(m:Nat):Option Nat:=(L.find? fun p=>Nat.beq p.1 m).map fun p=>p.2.1
def kI(ae:Nat)(ρ:aj)(L:Vw):aj:=fun m=>if m<ae then ρ m else if top<=m then ρ m else match vy L m with
 |some n=>ρ n
 |none=>none
def s9(L:Vw):List<|Nat×U:=L.map fun p=>(p.1,p.2.2)
theorem Ol{L:Vw}(fn:∀p∈L,∀q∈L,p.1=q.1->p=q){p:Nat×Nat×U}(hp:p∈L):vy L p.1=some p.2.1:=by
 unfold vy;cases e:L.find? fun q=>Nat.beq q.1 p.1 with
 |none=>exact absurd (List.find?_eq_none.1 e p hp) (by simp)
 |some q=>have h1:=List.mem_of_find?_eq_some e;have h2:=List.find?_some e;have h3:q.1=p.1:=Nat.eq_of_beq_eq_true h2;rw[fn q h1 p hp h3];rfl
theorem Om{L:Vw}{m n:Nat}(h:vy L m=some n):∃p∈L,p.1=m/\p.2.1=n:=by
 unfold vy at h;cases e:L.find? fun q=>Nat.beq q.1 m with
 |none=>rw[e] at h;cases h
 |some q=>rw[e] at h;have h2:=List.find?_some e;refine⟨q,List.mem_of_find?_eq_some e,Nat.eq_of_beq_eq_true h2,?_⟩;injection h
theorem xl{ae:Nat}{ρ:aj}{L:Vw}(ht:ae<=top){m:Nat}(hm:top<=m):kI ae ρ L m=ρ m:=by unfold kI;rw[if_neg (by omega),if_pos hm]
theorem Dv{ae:Nat}{ρ:aj}{L:Vw}{m:Nat}(hm:m<ae):kI ae ρ L m=ρ m:=by unfold kI;rw[if_pos hm]
theorem On{ae:Nat}{ρ:aj}{L:Vw}{m:Nat}(h1:ae<=m)(h2:m<top)(h3:∀p∈L,p.1≠m):kI ae ρ L m=none:=by
 unfold kI;rw[if_neg (by omega),if_neg<|by omega];cases e:vy L m with
 |none=>rfl
 |some n=>obtain⟨p,hp,e1,_⟩:=Om e;exact absurd e1<|h3 p hp
end Go.Rn
namespace Go.Rn
open Go.RowKit
structure y9 (ae:Nat) (ρ:aj) (h:Tr U) (L:Vw):Prop where
 nm:∀p∈L,ae<=p.1/\p.1<top/\p.2.1<top
 fn:∀p∈L,∀q∈L,p.1=q.1->p=q
 inj:∀p∈L,∀q∈L,p.2.1=q.2.1->p=q
 is:∀p∈L,∃o,h.get p.2.1=some o/\((o.own=true/\p.2.2.own=true/\∀N o',OR ρ N o o'->OR (kI ae ρ L) N p.2.2 o')\/∃k v,o= .tok k v/\p.2.2= .tok k v)
def wH(ρ:aj)(dR:Nat->Nat->Prop)(L:Vw)(x:Nat):Prop:=(∃p∈L,p.2.2.bQ=false/\∃N,ρ p.2.1=some (x,N))\/∃p∈L,p.2.2.mb=true/\dR p.2.1 x
theorem y9.oG{ae:Nat}{ρ:aj}{h:Tr U}{L:Vw}(V:y9 ae ρ h L){p:Nat×Nat×U}(hp:p∈L):kI ae ρ L p.1=ρ p.2.1:=by obtain⟨q1,q2,_⟩:=V.nm p hp;unfold kI;rw[if_neg (by omega),if_neg (by omega),Ol V.fn hp]
def EP(B:aH)(ρ:aj)(h:Tr U)(w:World)(dR:Nat->Nat->Prop):Prop:=(∀n k v,n<top->h.get n=some (.tok k v)->∃b N,ρ n=some (b,N)/\B.inv k v ρ w b (dR n)/\dR n b/\∀x,dR n x->(x<w.heap.size/\B.pI<=x)/\B.may x/\jE ρ h x/\∀j sh,ρ (hn j x sh)=none)/\∀n m x k v k' v',n<top->m<top->h.get n=some (.tok k v)->h.get m=some (.tok k' v')->n≠m->dR n x->¬dR m x
theorem RP{ae:Nat}{B:aH}{ρ:aj}{w:World}{h h0:Tr U}{ns:List Nat}{kn:List<|Nat×Option U}{L:Vw}{dR:Nat->Nat->Prop}(ht:ae<=top)(r:Rel B ρ h w)(T:EP B ρ h w dR)(ga:∀n o,n<top->h0.get n=some o->n∈ns)(gT:∀n∈ns,n<ae)(oC:∀n o,(n,some o)∈kn->h0.get n=some o)(wh:∀p∈kn,p.1<top)(a3:∀n∈ns,∃o p,h.get n=some o/\h0.get n=some p/\n8 ae o p=true)(V:y9 ae ρ h L):Rel (AX B ρ w<|wH ρ dR L) (kI ae ρ L) (kD<|kn++pc (s9 L)) w:=by
 have r0:=Em ht r ga gT a3;obtain⟨t1,t2⟩:=T;have za:(iI ae ρ).le<|kI ae ρ L:=by
  intro m x e;unfold iI at e;split at e
  ·rename_i q;rw[Dv q];exact e
  ·unfold eL at e;split at e
   ·rename_i q;rw[xl ht q];exact e
   ·cases e
 have Lo:∀m o,(m,o)∈s9 L->∃p∈L,p.1=m/\p.2.2=o:=fun m o hm=>by
  obtain⟨p,hp,e⟩:=List.mem_map.1 hm;injection e with e1 e2
  exact⟨p,hp,e1,e2⟩
 have cA:∀p∈kn++pc (s9 L),p.1<top:=fun p hp=>by
  rcases List.mem_append.1 hp with hp|hp
  ·exact wh p hp
  ·refine HS (fun q hq=>?_) p hp;obtain⟨p,hp,e1,_⟩:=Lo q.1 q.2 hq;rw[←e1];exact(V.nm p hp).2.1
 have I:∀m o,(kD<|kn++pc (s9 L)).get m=some o->(m∈ns/\h0.get m=some o/\o.kA=true)\/∃p∈L,p.1=m/\p.2.2=o:=fun m o hg=>by
  rcases List.mem_append.1 (qf cA hg) with q|q
  ·have q2:=oC m o q;have fw:=ga m o (wh _ q) q2;obtain⟨p1,p2,_,c3,c4⟩:=a3 m fw;rw[q2] at c3;cases c3;refine .inl ⟨fw,q2,?_⟩;unfold n8 at c4;split at c4<;>first|rfl|cases c4
  ·exact .inr<|Lo m o<|HK q
 have nw:∀p∈L,p.2.2.bQ=false->∃o,h.get p.2.1=some o/\o.bQ=false:=fun p hp e=>by
  obtain⟨o,g1,⟨g2,_⟩|⟨k,v,_,g2⟩⟩:=V.is p hp
  ·exact⟨o,g1,(U.rK g2).2⟩
  ·rw[g2] at e;cases e
 have mo:∀p∈L,p.2.2.mb=true->∃k v,h.get p.2.1=some (.tok k v)/\p.2.2= .tok k v:=fun p hp e=>by
  obtain⟨o,g1,⟨_,g2,_⟩|⟨k,v,rfl,g2⟩⟩:=V.is p hp
  ·generalize p.2.2=q at e g2;cases q<;>first|(cases e;done)|cases g2
  ·exact⟨k,v,g1,g2⟩
 have QN:∀p∈L,p.2.2.kA=true->False:=fun p hp e=>by
  obtain⟨o,g1,⟨_,g2,_⟩|⟨k,v,_,g2⟩⟩:=V.is p hp
  ·generalize p.2.2=q at e g2;cases q<;>first|(cases e;done)|cases g2
  ·rw[g2] at e;cases e
 have FA:∀m N x,m∈ns->kI ae ρ L m=some (x,N)->x<B.pI/\¬wH ρ dR L x:=fun m N x q1 e=>by
  rw[Dv<|gT m q1] at e;obtain⟨p1,p2,c2,c3,c4⟩:=a3 m q1;have gI:m<top:=Nat.lt_of_lt_of_le (gT m q1) ht;obtain⟨b',N',e1,e2⟩:=r.tk.1.2 m p1 gI c2<|Cn c4;rw[e] at e1;cases e1;refine⟨e2,?_⟩;rintro (⟨p,hp,ho,M,e3⟩|⟨p,hp,ho,e3⟩)
  ·obtain⟨o,g1,g2⟩:=nw p hp ho;have:=r.one m p.2.1 p1 o x N M gI (V.nm p hp).2.2 c2 g1 (.inr g2) e e3;rw[←this,c2] at g1;cases g1;rw[U.iQ<|Cn c4] at g2;cases g2
  ·obtain⟨k,v,g1,_⟩:=mo p hp ho;obtain⟨_,_,_,_,_,f⟩:=t1 _ k v (V.nm p hp).2.2 g1;have:=(f x e3).1.2;omega
 have QO:∀j x sh,ρ (hn j x sh)≠none->¬wH ρ dR L x:=fun j x sh e=>by
  obtain⟨_,_,_,_,_,_,_,z3,_⟩:=r.fz j x sh e;rintro (⟨p,hp,ho,M,e3⟩|⟨p,hp,ho,e3⟩)
  ·obtain⟨o,g1,g2⟩:=nw p hp ho;exact z3 p.2.1 o M (V.nm p hp).2.2 g1 g2 e3
  ·obtain⟨k,v,g1,_⟩:=mo p hp ho;obtain⟨_,_,_,_,_,f⟩:=t1 _ k v (V.nm p hp).2.2 g1;exact e<|(f x e3).2.2.2 j sh
 refine⟨fun m o hm hg=>?_,fun m n o p x N M hm jI hg lK ct e1 e2=>?_,fun m i es ex left cur hm hg=>?_,fun x hx=>.inl hx,fun i j m es ex left cur dT fM fB fD hi _ hg _=>?_,fun j x sh e=>?_,?_⟩
 ·rcases I m o hg with⟨q1,q3,q4⟩|⟨p,hp,rfl,rfl⟩
  ·obtain⟨b',N',o',e1,e2,e3,_⟩:=r0.is m o hm q3;exact⟨b',N',o',za _ _ e1,e2,e3.mono za,fun z=>by rw[U.iQ q4] at z;cases z⟩
  ·obtain⟨o,g1,g2⟩:=V.is p hp;obtain⟨b',N',o',e1,e2,e3,_⟩:=r.is p.2.1 o (V.nm p hp).2.2 g1;rcases g2 with⟨_,_,g3⟩|⟨k,v,_,g3⟩
   ·exact⟨b',N',o',(V.oG hp).trans e1,e2,g3 _ _ e3,fun z=>.inr<|.inl ⟨p,hp,z,N',e1⟩⟩
   ·rw[g3];exact⟨b',N',o',(V.oG hp).trans e1,e2,trivial,fun z=>by cases z⟩
 ·rcases I m o hg with⟨q1,q3,q4⟩|⟨p1,gY,rfl,rfl⟩
  ·rcases I n p lK with⟨z1,z3,z4⟩|⟨p2,dF,rfl,rfl⟩
   ·rcases ct with y|y
    ·rw[U.iQ q4] at y;cases y
    ·rw[U.iQ z4] at y;cases y
   ·rw[V.oG dF] at e2;rcases ct with y|y
    ·rw[U.iQ q4] at y;cases y
    ·exact absurd (.inl ⟨p2,dF,y,M,e2⟩) (FA m N x q1 e1).2
  ·rw[V.oG gY] at e1;rcases I n p lK with⟨z1,z3,z4⟩|⟨p2,dF,rfl,rfl⟩
   ·rcases ct with y|y
    ·exact absurd (.inl ⟨p1,gY,y,N,e1⟩) (FA n M x z1 e2).2
    ·rw[U.iQ z4] at y;cases y
   ·rw[V.oG dF] at e2;obtain⟨o1,g1,_⟩:=V.is p1 gY;obtain⟨o2,f1,_⟩:=V.is p2 dF;have SN:o1.bQ=false\/o2.bQ=false:=ct.imp (fun y=>by
     obtain⟨o,k1,k2⟩:=nw p1 gY y;rw[g1] at k1;cases k1;exact k2) (fun y=>by
     obtain⟨o,k1,k2⟩:=nw p2 dF y;rw[f1] at k1;cases k1;exact k2)
    have:=r.one p1.2.1 p2.2.1 o1 o2 x N M (V.nm p1 gY).2.2 (V.nm p2 dF).2.2 g1 f1 SN e1 e2;rw[V.inj p1 gY p2 dF this]
 ·rcases I m _ hg with⟨_,_,q4⟩|⟨p,hp,_,e⟩
  ·cases q4
  ·obtain⟨_,_,⟨_,g2,_⟩|⟨k,v,_,g2⟩⟩:=V.is p hp
   ·rw[e] at g2;cases g2
   ·rw[e] at g2;cases g2
 ·rcases I i _ hg with⟨_,_,q4⟩|⟨p,hp,_,e⟩
  ·cases q4
  ·obtain⟨_,_,⟨_,g2,_⟩|⟨k,v,_,g2⟩⟩:=V.is p hp
   ·rw[e] at g2;cases g2
   ·rw[e] at g2;cases g2
 ·rw[xl ht<|fI _ _ _] at e;obtain⟨g0,l,c,e',fr,g1,g2,g3,g4⟩:=r0.fz j x sh (by rw[uP ht<|fI _ _ _];exact e);refine⟨.inl e,l,c,e',fr,g1,g2,fun m o N hm hg cn hr=>?_,fun i y hy=>?_⟩
  ·rcases I m o hg with⟨_,_,q4⟩|⟨p,hp,rfl,rfl⟩
   ·rw[U.iQ q4] at cn;cases cn
   ·rw[V.oG hp] at hr;exact QO j x sh e<|.inl ⟨p,hp,cn,N,hr⟩
  ·obtain⟨v',k1,k2,k3⟩:=g4 i y hy;refine⟨v',k1,VR.mono (fun i z q=>?_) _ _ k2,k3⟩;unfold eL at q ⊢;split at q
   ·rename_i hk;rw[if_pos hk];exact za _ _ q
   ·cases q
 ·let H':Nat->Nat->Prop:=fun m x=>∃p∈L,p.1=m/\dR p.2.1 x;have FB:∀p∈L,H' p.1=dR p.2.1:=fun p hp=>funext fun x=>propext ⟨fun⟨q,hq,e1,e2⟩=>by rw[V.fn q hq p hp e1] at e2;exact e2,fun e=>⟨p,hp,rfl,e⟩⟩;refine⟨⟨r.tk.1.1,fun m o hm hg hf=>?_⟩,H',fun m k' v' hm hg=>?_,fun m n x k' v' Ln y8 hm jI hg lK bS Lp BP=>?_⟩
  ·rcases I m o hg with⟨q1,q3,q4⟩|⟨p,hp,rfl,rfl⟩
   ·obtain⟨b',N',o',e1,e2,e3,_⟩:=r0.is m o hm q3;exact⟨b',N',za _ _ e1,(FA m N' b' q1<|za _ _ e1).1⟩
   ·exact(QN p hp hf).elim
  ·rcases I m _ hg with⟨_,_,q4⟩|⟨p,hp,rfl,e⟩
   ·cases q4
   ·obtain⟨k,v,g1,g2⟩:=mo p hp (by rw[e];rfl);rw[e] at g2;cases g2;obtain⟨b,N,f1,f2,f3,f4⟩:=t1 _ _ _ (V.nm p hp).2.2 g1;refine⟨b,N,(V.oG hp).trans f1,?_,by rw[FB p hp];exact f3,fun x hx=>?_⟩
    ·rw[FB p hp];exact B.mono f2 (fun i y hi q=>by rw[xl ht hi];exact q) fun _ _=>rfl
    ·rw[FB p hp] at hx;obtain⟨c1,c2,c3,c4⟩:=f4 x hx;refine⟨c1,.inr<|.inr ⟨p,hp,by rw[e];rfl,hx⟩,fun n o N jI lK cn hr=>?_,fun j sh=>by rw[xl ht<|fI _ _ _];exact c4 j sh⟩;rcases I n o lK with⟨_,_,q4⟩|⟨p2,dF,rfl,rfl⟩
     ·rw[U.iQ q4] at cn;cases cn
     ·rw[V.oG dF] at hr;obtain⟨o2,k1,k2⟩:=nw p2 dF cn;exact c3 p2.2.1 o2 N (V.nm p2 dF).2.2 k1 k2 hr
  ·obtain⟨p1,gY,y1,z1⟩:=Lp;obtain⟨p2,dF,y2,z2⟩:=BP;rcases I m _ hg with⟨_,_,q4⟩|⟨q1,BF,e1,e2⟩
   ·cases q4
   ·rcases I n _ lK with⟨_,_,q4⟩|⟨q2,yO,e3,e4⟩
    ·cases q4
    ·have:=V.fn p1 gY q1 BF<|y1.trans e1.symm;subst this;have:=V.fn p2 dF q2 yO<|y2.trans e3.symm;subst this;obtain⟨k1,v1,g1,_⟩:=mo p1 gY (by rw[e2];rfl);obtain⟨k2,v2,g2,_⟩:=mo p2 dF (by rw[e4];rfl);exact t2 _ _ x _ _ _ _ (V.nm p1 gY).2.2 (V.nm p2 dF).2.2 g1 g2 (fun q=>bS<|by rw[←y1, ←y2,V.inj p1 gY p2 dF q]) z1 z2
end Go.Rn
namespace Go.Rn
open Go.RowKit
theorem QP{ae a:Nat}{B:aH}{ρ σ:aj}{w w':World}{h h4 h':Tr U}{L:Vw}{L2:List<|Nat×U}{dR:Nat->Nat->Prop}(r:Rel B ρ h w)(T:EP B ρ h w dR)(V:y9 ae ρ h L)(q3:Rel (AX B ρ w<|wH ρ dR L) σ h4 w')(q4:bp (AX B ρ w<|wH ρ dR L) w w')(xO:∀p∈L,σ p.1=ρ p.2.1)(zb:∀m x,top<=m->ρ m=some x->σ m=some x)(h2:∀n q,(n,q)∈L2->∃p∈L,p.2.1=n/\∃o1,h4.get p.1=some o1/\((q.own=true/\p.2.2.own=true/\∀N o',OR σ N o1 o'->OR (dI ρ σ) N q o')\/∃k v v0,o1= .tok k v/\q= .tok k v/\p.2.2= .tok k v0))(h3:∀p∈L,p.2.2.bQ=false->∃o1,h4.get p.1=some o1/\o1.bQ=false)(hh:∀k,k<top->(∃q,(k,q)∈L2/\h'.get k=some q)\/((∀q∈L,q.2.1≠k)/\h'.get k=h.get k)):
 Ext a a ρ (dI ρ σ)/\jW σ (dI ρ σ)/\Rel B (dI ρ σ) h' w'/\bp B w w':=by
 obtain⟨t1,t2⟩:=T;have hl:ρ.le<|dI ρ σ:=by
  intro k x e;unfold dI;by_cases hk:top<=k
  ·rw[if_pos hk];exact zb k x hk e
  ·rw[if_neg hk];exact e
 have cA:∀k,k<top->dI ρ σ k=ρ k:=fun k hk=>by unfold dI;rw[if_neg<|by omega]
 have gv:∀k,top<=k->dI ρ σ k=σ k:=fun k hk=>by unfold dI;rw[if_pos hk]
 have nw:∀p∈L,p.2.2.bQ=false->∃o,h.get p.2.1=some o/\o.bQ=false/\o.own=true:=fun p hp e=>by
  obtain⟨o,g1,⟨g2,_⟩|⟨k,v,_,g2⟩⟩:=V.is p hp
  ·exact⟨o,g1,(U.rK g2).2,g2⟩
  ·rw[g2] at e;cases e
 have mo:∀p∈L,p.2.2.mb=true->∃k v,h.get p.2.1=some (.tok k v)/\p.2.2= .tok k v:=fun p hp e=>by
  obtain⟨o,g1,⟨_,g2,_⟩|⟨k,v,rfl,g2⟩⟩:=V.is p hp
  ·generalize p.2.2=q at e g2;cases q<;>first|(cases e;done)|cases g2
  ·exact⟨k,v,g1,g2⟩
 have Bp:∀x,wH ρ dR L x->B.may x:=fun x hx=>by
  rcases hx with⟨p,hp,ho,N,e⟩|⟨p,hp,ho,e⟩
  ·obtain⟨o,g1,g2,_⟩:=nw p hp ho;obtain⟨x1,N1,_,e1,_,_,e3⟩:=r.is p.2.1 o (V.nm p hp).2.2 g1;rw[e] at e1;cases e1;exact e3 g2
  ·obtain⟨k,v,g1,_⟩:=mo p hp ho;obtain⟨_,_,_,_,_,f⟩:=t1 _ k v (V.nm p hp).2.2 g1;exact(f x e).2.1
 have yd:bp B w w':=⟨q4.os,q4.tape,q4.output,q4.size,fun x hx hm=>q4.block x hx fun z=>by
  rcases z with z|z
  ·have z:w.heap.size<=x:=z;omega
  ·exact hm<|Bp x z⟩
 have nq:∀x,x<w.heap.size->¬wH ρ dR L x->w'.heap[x]? =w.heap[x]? :=fun x hx hm=>q4.block x hx fun z=>by
  rcases z with z|z
  ·have z:w.heap.size<=x:=z;omega
  ·exact hm z
 have cs:∀m o,m<top->h'.get m=some o->(∃p∈L,p.2.1=m/\∃o1,h4.get p.1=some o1/\((o.own=true/\p.2.2.own=true/\∀N o',OR σ N o1 o'->OR (dI ρ σ) N o o')\/∃k v v0,o1= .tok k v/\o= .tok k v/\p.2.2= .tok k v0))\/((∀q∈L,q.2.1≠m)/\h.get m=some o):=fun m o hm ho=>by
  rcases hh m hm with⟨q,e1,e2⟩|⟨e1,e2⟩
  ·rw[ho] at e2;cases e2;exact .inl<|h2 m o e1
  ·exact .inr ⟨e1,by rw[←e2];exact ho⟩
 have bJ:∀m o,m<top->h'.get m=some o->∃q,h.get m=some q/\(o.bQ=false->q.bQ=false):=fun m o hm ho=>by
  rcases cs m o hm ho with⟨p,hp,rfl,o1,g1,⟨y1,y2,_⟩|⟨k,v,v0,_,y1,_⟩⟩|⟨_,e⟩
  ·obtain⟨q,g1,g2,_⟩:=nw p hp (U.rK y2).2;exact⟨q,g1,fun _=>g2⟩
  ·obtain⟨q,g1,_⟩:=V.is p hp;exact⟨q,g1,fun z=>by rw[y1] at z;cases z⟩
  ·exact⟨o,e,id⟩
 have other:∀m o x M,m<top->(∀q∈L,q.2.1≠m)->h.get m=some o->ρ m=some (x,M)->¬wH ρ dR L x:=fun m o x M hm bS ho e=>by
  rintro (⟨p,hp,gY,N,e1⟩|⟨p,hp,gY,e1⟩)
  ·obtain⟨q,g1,g2,_⟩:=nw p hp gY;exact bS p hp<|r.one p.2.1 m q o x N M (V.nm p hp).2.2 hm g1 ho (.inl g2) e1 e
  ·obtain⟨k,v,g1,_⟩:=mo p hp gY;obtain⟨_,_,_,_,_,f⟩:=t1 _ k v (V.nm p hp).2.2 g1;obtain⟨⟨_,c1⟩,_,c3,_⟩:=f x e1;cases cn:o.bQ with
   |false=>exact c3 m o M hm ho cn e
   |true=>
    by_cases hf:o.kA=true
    ·obtain⟨b',N',k1,k2⟩:=r.tk.1.2 m o hm ho hf;rw[e] at k1;cases k1;omega
    ·cases o<;>first|(cases cn;done)|(exact hf rfl)|skip
     rename_i k' y8;obtain⟨b',N',k1,_,k3,_⟩:=t1 m k' y8 hm ho;rw[e] at k1;cases k1;exact t2 _ m x k v k' y8 (V.nm p hp).2.2 hm g1 ho (bS p hp) e1 k3
 have BQ:∀x,jE ρ h x->jE (dI ρ σ) h' x:=fun x hn m o M hm ho cn e=>by obtain⟨q,g1,g2⟩:=bJ m o hm ho;rw[cA m hm] at e;exact hn m q M hm g1 (g2 cn) e
 have Ky:∀x,w.heap.size<=x->jE (dI ρ σ) h' x:=fun x hx m o M hm ho cn e=>by obtain⟨q,g1,_⟩:=bJ m o hm ho;rw[cA m hm] at e;obtain⟨b1,N1,o1,e1,e2,_⟩:=r.is m q hm g1;rw[e] at e1;cases e1;have:=fU e2;omega
 have RQ:∀p∈L,∀o,h.get p.2.1=some o->o.own=true\/o.mb=true:=fun p hp o ho=>by
  obtain⟨q,g1,⟨g2,_⟩|⟨k,v,g2,_⟩⟩:=V.is p hp
  ·rw[ho] at g1;cases g1;exact .inl g2
  ·rw[ho,g2] at g1;cases g1;exact .inr rfl
 have J5:∀i,h.get i=some .fp->∀q∈L,q.2.1≠i:=fun i e q hq z=>by rcases RQ q hq .fp (by rw[z];exact e) with y|y<;>cases y
 obtain⟨⟨_,_⟩,Hq,s1,s2⟩:=q3.tk;refine⟨⟨hl,fun k hk _=>cA k hk⟩,fun k x hk e=>by rw[gv k hk];exact e,⟨fun m o hm ho=>?_,fun m m2 o p x M M2 hm nE ho hp ct e1 e2=>?_,fun m i es ex left cur hm ho=>?_,fun x hx=>r.size x<|Nat.le_trans q4.size hx,fun i j m es ex left cur dT fM fB fD hi hj ho hp=>?_,fun j x sh e=>?_,?_⟩,yd⟩
 ·rcases cs m o hm ho with⟨p,hp,rfl,o1,g1,⟨y1,y2,g2⟩|⟨k,v,v0,y1,y2,y3⟩⟩|⟨bS,e⟩
  ·obtain⟨b1,N1,o',e1,e2,e3,_⟩:=q3.is p.1 o1 (V.nm p hp).2.1 g1;rw[xO p hp] at e1;exact⟨b1,N1,o',(cA _ hm).trans e1,e2,g2 _ _ e3,fun _=>Bp b1<|.inl ⟨p,hp,(U.rK y2).2,N1,e1⟩⟩
  ·obtain⟨b1,N1,o',e1,e2,e3,_⟩:=q3.is p.1 o1 (V.nm p hp).2.1 g1;rw[xO p hp] at e1;rw[y2];exact⟨b1,N1,o',(cA _ hm).trans e1,e2,trivial,fun z=>by cases z⟩
  ·obtain⟨b1,N1,o1,e1,e2,e3,e4⟩:=r.is m o hm e;exact⟨b1,N1,o1,(cA m hm).trans e1,(nq b1 (fU e2)<|other m o b1 N1 hm bS e e1).trans e2,e3.mono hl,e4⟩
 ·rw[cA m hm] at e1;rw[cA m2 nE] at e2;obtain⟨o1,a1,a2⟩:=bJ m o hm ho;obtain⟨o2,a3,a4⟩:=bJ m2 p nE hp;exact r.one m m2 o1 o2 x M M2 hm nE a1 a3 (ct.imp a2 a4) e1 e2
 ·rcases cs m _ hm ho with⟨p,hp,_,_,_,⟨y1,_⟩|⟨k,v,v0,_,y2,_⟩⟩|⟨bS,e⟩
  ·cases y1
  ·cases y2
  ·obtain⟨hi,dO,b1,N1,bm,M,l,aM,seen,u1,u2,u3,u4,u5⟩:=r.iter m i es ex left cur hm e;have u:jr ρ w' m i es ex left cur:=⟨b1,N1,bm,M,l,aM,seen,u1,u2,(nq b1 (fU u3)<|other m _ b1 N1 hm bS e u1).trans u3,(nq bm (fU u4)<|other i _ bm M hi (J5 i dO) dO u2).trans u4,u5⟩;refine⟨hi,?_,u.mono hl⟩;rcases hh i hi with⟨q,f1,f2⟩|⟨_,f2⟩
   ·obtain⟨p,hp,f3,_⟩:=h2 i q f1;exact absurd f3<|J5 i dO p hp
   ·rw[f2];exact dO
 ·rcases cs i _ hi ho with⟨p,hp,_,_,_,⟨y1,_⟩|⟨k,v,v0,_,y2,_⟩⟩|⟨_,e⟩
  ·cases y1
  ·cases y2
  ·rcases cs j _ hj hp with⟨p,hp,_,_,_,⟨y1,_⟩|⟨k,v,v0,_,y2,_⟩⟩|⟨_,e'⟩
   ·cases y1
   ·cases y2
   ·exact r.lone i j m es ex left cur dT fM fB fD hi hj e e'
 ·rw[gv _<|fI _ _ _] at e;obtain⟨g0,l,c,e',fr,g1,g2,gn,g4⟩:=q3.fz j x sh e;have kx:∀i y,l[i]? =some y->∃v,c[sh+i]? =some v/\VR (eL<|dI ρ σ) y v/\y.bu=true:=fun i y hy=>by
   obtain⟨v,k1,k2,k3⟩:=g4 i y hy;refine⟨v,k1,VR.mono (fun z u q=>?_) _ _ k2,k3⟩;unfold eL at q ⊢;split at q
   ·rename_i hk;rw[if_pos hk,gv z hk];exact q
   ·cases q
  by_cases q:ρ (hn j x sh)≠none
  ·obtain⟨z0,l',c',e2,gr,z1,z2,z3,_⟩:=r.fz j x sh q;exact⟨z0,l,c,e',fr,g1,g2,BQ x z3,kx⟩
  ·rcases g0.resolve_left q with z|z
   ·have z:w.heap.size<=x:=z;exact⟨.inr<|r.size x z,l,c,e',fr,g1,g2,Ky x z,kx⟩
   ·refine⟨.inr<|Bp x z,l,c,e',fr,g1,g2,?_,kx⟩;rcases z with⟨p,hp,ho,N,e1⟩|⟨p,hp,ho,e1⟩
    ·obtain⟨o1,f1,f2⟩:=h3 p hp ho;exact absurd ((xO p hp).trans e1)<|gn p.1 o1 N (V.nm p hp).2.1 f1 f2
    ·obtain⟨k,v,k1,_⟩:=mo p hp ho;obtain⟨_,_,_,_,_,f⟩:=t1 _ k v (V.nm p hp).2.2 k1;exact BQ x (f x e1).2.2.1
 ·let H':Nat->Nat->Prop:=fun m x=>(∃p∈L,p.2.1=m/\Hq p.1 x)\/((∀p∈L,p.2.1≠m)/\dR m x);have wi:∀p∈L,H' p.2.1=Hq p.1:=fun p hp=>funext fun x=>propext ⟨fun z=>by
   rcases z with⟨q,hq,e1,e2⟩|⟨e1,_⟩
   ·rw[V.inj q hq p hp e1] at e2;exact e2
   ·exact absurd rfl<|e1 p hp,fun z=>.inl ⟨p,hp,rfl,z⟩⟩
  have wj:∀m,(∀p∈L,p.2.1≠m)->H' m=dR m:=fun m hm=>funext fun x=>propext ⟨fun z=>by
   rcases z with⟨q,hq,e1,_⟩|⟨_,z⟩
   ·exact absurd e1 (hm q hq)
   ·exact z,fun z=>.inr ⟨hm,z⟩⟩
  have FC:∀p∈L,∀k v,h4.get p.1=some (.tok k v)->∀x,Hq p.1 x->x<w'.heap.size/\(w.heap.size<=x\/wH ρ dR L x)/\∀j sh,σ (hn j x sh)=none:=fun p hp k v hg x hx=>by obtain⟨_,_,_,_,_,f⟩:=s1 p.1 k v (V.nm p hp).2.1 hg;obtain⟨⟨c1,_⟩,c2,_,c4⟩:=f x hx;exact⟨c1,c2,c4⟩
  have AY:∀m k v,m<top->h'.get m=some (.tok k v)->(∃p∈L,p.2.1=m/\h4.get p.1=some (.tok k v)/\∃v0,p.2.2= .tok k v0)\/((∀q∈L,q.2.1≠m)/\h.get m=some (.tok k v)):=fun m k v hm ho=>by
   rcases cs m _ hm ho with⟨p,hp,e0,o1,g1,⟨y1,_⟩|⟨k',v',v0,y1,y2,y3⟩⟩|z
   ·cases y1
   ·cases y2;exact .inl ⟨p,hp,e0,by rw[g1,y1],v0,y3⟩
   ·exact .inr z
  have sep:∀m k v,m<top->(∀q∈L,q.2.1≠m)->h.get m=some (.tok k v)->∀x,dR m x->(w.heap.size<=x\/wH ρ dR L x)->False:=fun m k1 v1 hm bS hg x hx z=>by
   obtain⟨_,_,_,_,_,f4⟩:=t1 m k1 v1 hm hg;rcases z with z|⟨p,hp,ru,N,e1⟩|⟨p,hp,ru,e1⟩
   ·have:=(f4 x hx).1.1;omega
   ·obtain⟨q,g1,g2,_⟩:=nw p hp ru;exact(f4 x hx).2.2.1 p.2.1 q N (V.nm p hp).2.2 g1 g2 e1
   ·obtain⟨k,v,g1,_⟩:=mo p hp ru;exact t2 _ m x k v k1 v1 (V.nm p hp).2.2 hm g1 hg (bS p hp) e1 hx
  refine⟨⟨Nat.le_trans r.tk.1.1 q4.size,fun m o hm ho hf=>?_⟩,H',fun m k1 v1 hm ho=>?_,fun m m2 x k1 v1 k2 v2 hm nE ho hp bS z1 z2=>?_⟩
  ·rcases cs m o hm ho with⟨p,hp,_,_,_,⟨y1,_⟩|⟨k,v,v0,_,y2,_⟩⟩|⟨_,e⟩
   ·cases o<;>first|(cases hf;done)|cases y1
   ·rw[y2] at hf;cases hf
   ·obtain⟨b1,N1,e1,e2⟩:=r.tk.1.2 m o hm e hf;exact⟨b1,N1,(cA m hm).trans e1,e2⟩
  ·rcases AY m k1 v1 hm ho with⟨p,hp,rfl,hg,v0,Lr⟩|⟨bS,hg⟩
   ·obtain⟨b1,N1,f1,f2,f3,f4⟩:=s1 p.1 k1 v1 (V.nm p hp).2.1 hg;have VC:p.2.2.mb=true:=by rw[Lr];rfl
    refine⟨b1,N1,(cA _ hm).trans<|(xO p hp).symm.trans f1,?_,by rw[wi p hp];exact f3,fun x hx=>?_⟩
    ·rw[wi p hp];exact B.mono f2 (fun i y hi q=>by rw[gv i hi];exact q) fun _ _=>rfl
    ·rw[wi p hp] at hx;obtain⟨c1,c2,c4⟩:=FC p hp k1 v1 hg x hx;obtain⟨⟨_,SO⟩,_,c3,_⟩:=f4 x hx;refine⟨⟨c1,SO⟩,?_,?_,fun j sh=>by rw[gv _<|fI _ _ _];exact c4 j sh⟩
     ·rcases c2 with y|y
      ·exact r.size x y
      ·exact Bp x y
     ·rcases c2 with y|y
      ·exact Ky x y
      ·rcases y with⟨p2,dF,zc,N2,e2⟩|⟨p2,dF,zc,e2⟩
       ·obtain⟨o1,T5,yL⟩:=h3 p2 dF zc;exact absurd ((xO p2 dF).trans e2)<|c3 p2.1 o1 N2 (V.nm p2 dF).2.1 T5 yL
       ·obtain⟨k,v,g1,_⟩:=mo p2 dF zc;obtain⟨_,_,_,_,_,f⟩:=t1 _ k v (V.nm p2 dF).2.2 g1;exact BQ x (f x e2).2.2.1
   ·obtain⟨b1,N1,f1,f2,f3,f4⟩:=t1 m k1 v1 hm hg;have Kz:∀x,dR m x->¬wH ρ dR L x:=fun x hx z=>by
     rcases z with⟨p,hp,ru,N,e1⟩|⟨p,hp,ru,e1⟩
     ·obtain⟨q,g1,g2,_⟩:=nw p hp ru;exact(f4 x hx).2.2.1 p.2.1 q N (V.nm p hp).2.2 g1 g2 e1
     ·obtain⟨k,v,g1,_⟩:=mo p hp ru;exact t2 _ m x k v k1 v1 (V.nm p hp).2.2 hm g1 hg (bS p hp) e1 hx
    refine⟨b1,N1,(cA m hm).trans f1,?_,by rw[wj m bS];exact f3,fun x hx=>?_⟩
    ·rw[wj m bS];exact B.mono f2 (fun i y _ e=>hl _ _ e) fun x hx=>nq x (f4 x hx).1.1<|Kz x hx
    ·rw[wj m bS] at hx;obtain⟨⟨c1,cl⟩,c2,c3,c4⟩:=f4 x hx;refine⟨⟨Nat.lt_of_lt_of_le c1 q4.size,cl⟩,c2,BQ x c3,fun j sh=>Classical.byContradiction fun z=>?_⟩;rw[gv _<|fI _ _ _] at z;rcases(q3.fz j x sh z).1 with y|y
     ·exact y<|c4 j sh
     ·rcases y with y|y
      ·have y:w.heap.size<=x:=y;omega
      ·exact Kz x hx y
  ·rcases AY m k1 v1 hm ho with⟨p1,gY,rfl,hg,v0,Lr⟩|⟨KF,hg⟩
   ·rw[wi p1 gY] at z1;obtain⟨c1,c2,_⟩:=FC p1 gY k1 v1 hg x z1;rcases AY m2 k2 v2 nE hp with⟨p2,dF,rfl,ua,T6,SP⟩|⟨Bq,ua⟩
    ·rw[wi p2 dF] at z2;exact s2 p1.1 p2.1 x k1 v1 k2 v2 (V.nm p1 gY).2.1 (V.nm p2 dF).2.1 hg ua (fun q=>bS<|by rw[V.fn p1 gY p2 dF q]) z1 z2
    ·rw[wj m2 Bq] at z2;exact sep m2 k2 v2 nE Bq ua x z2 c2
   ·rw[wj m KF] at z1;rcases AY m2 k2 v2 nE hp with⟨p2,dF,rfl,ua,T6,SP⟩|⟨Bq,ua⟩
    ·rw[wi p2 dF] at z2;exact sep m k1 v1 hm KF hg x z1 (FC p2 dF k2 v2 ua x z2).2.1
    ·rw[wj m2 Bq] at z2;exact t2 m m2 x k1 v1 k2 v2 hm nE hg ua bS z1 z2
end Go.Rn
namespace Go.Rn
open Go.RowKit
noncomputable section
open Classical in
def og{β:Type}(c:Prop)(m:M β):M β:=aB (decide c) m
end
open Classical in
theorem Oo{β:Type}{c:Prop}{m:M β}{s s1:AS}{b:β}(h:og c m s= .ok b s1):c/\m s= .ok b s1:=by unfold og at h;obtain⟨h1,h2⟩:=bP h;exact⟨of_decide_eq_true h1,h2⟩
theorem Ir{β:Type}{c:Prop}{m:M β}(h:c):og c m=m:=by unfold og;simp only[h,decide_true];rfl
theorem U5.og{β:Type}{c:Prop}{m:M β}(h:U5 m):U5<|og c m:=U5.aB fun _=>h
end Go.Rn
namespace Go.Rn
open Go.RowKit
noncomputable section
end
section
variable {X:TX} {P:Program} {ae:Nat} {ns:List Nat} {h0:Tr U} {kn:List<|Nat×Option U} {L L':bY} {g k:Nat} {fn:Func} {body:Code}
end
end Go.Rn
namespace Go.Rn
open Go.RowKit
noncomputable def ak(cs:List AV):U:=.cells cs.length (Tr.fill cs 0 .nil) []
theorem Pf{a b:List AV}(ha:a.length<=top)(hb:b.length<=top)(h:ak a=ak b):a=b:=by
 unfold ak at h;injection h with h1 h2 _
 refine List.ext_getElem? fun i=>?_;by_cases q:i<a.length
 ·have e1:=p6 ha q;have e2:=p6 hb (show i<b.length by omega);rw[←e1, ←e2,h2]
 ·rw[List.getElem?_eq_none (by omega),List.getElem?_eq_none<|by omega]
open Classical in
noncomputable def rowOf(o:U):Option<|List AV:=if h:∃cs,cs.length<=top/\o=ak cs then some h.choose else none
theorem Oq{o:U}{cs:List AV}(h:rowOf o=some cs):o=ak cs/\cs.length<=top:=by
 unfold rowOf at h;split at h
 ·rename_i q;injection h with h;rw[←h];exact⟨q.choose_spec.2,q.choose_spec.1⟩
 ·cases h
theorem Ot{cs:List AV}(h:cs.length<=top):rowOf (ak cs)=some cs:=by unfold rowOf;have q:∃wk,wk.length<=top/\ak cs=ak wk:=⟨cs,h,rfl⟩;rw[dif_pos q];exact congrArg some (Pf h q.choose_spec.1 q.choose_spec.2).symm
noncomputable section
end
theorem PW{ρ σ:aj}{N:Nat}{a b:List AV}{o':Obj}(ha:a.length<=top)(hb:b.length<=top)(hl:b.length=a.length)(hc:∀(i:Nat) (x y:AV),a[i]? =some x->b[i]? =some y->(x.bu=true->y.bu=true)/\∀v,VR ρ x v->VR σ y v)(h:OR ρ N (ak a) o'):OR σ N (ak b) o':=by unfold ak at h ⊢;simp only[OR] at h ⊢;obtain⟨c,e,rfl,h1,h2,h3⟩:=h;refine⟨c,e,rfl,h1,by omega,fun i hi=>?_⟩;obtain⟨x,v,k1,k2,k3,k4⟩:=h3 i (by omega);rw[p6 ha<|by omega] at k1;have ft:b[i]? =some (b[i]'hi):=List.getElem?_eq_getElem hi;obtain⟨q1,q2⟩:=hc i x _ k1 ft;exact⟨_,v,by rw[p6 hb hi];exact ft,q1 k2,k3,q2 v k4⟩
theorem J6{ρ σ:aj}{N:Nat}{a:List AV}{o':Obj}(fO:jW ρ σ)(ha:a.length<=top)(hh:a.all AV.bO=true)(h:OR ρ N (ak a) o'):OR σ N (ak a) o':=PW ha ha rfl (fun i x y e1 e2=>by rw[e1] at e2;cases e2;exact⟨id,fun v k=>AV.u0 fO (List.all_eq_true.1 hh x<|List.mem_of_getElem? e1) k⟩) h
section
variable {X:TX} {P:Program} {ae kp k:Nat} {ns:List Nat} {h0:Tr U} {kn:List<|Nat×Option U} {L L':bY} {g:Nat} {fn:Func} {body:Code}
end
theorem RS(n:Nat)(o:Option U)(s:AS):(eY n o s).nx=s.nx/\(eY n o s).h=s.h.put n o:=by unfold eY;cases Nat.blt n s.mark<;>exact⟨rfl,rfl⟩
noncomputable section
end
end Go.Rn
namespace Go.Rn
open Go.RowKit
def tq(x:AV):List Nat:=match x with
 | .ptr (some (n,_))=>[n]
 | .slice (some (n,_)) _ _=>[n]
 | .func (.func _) [] [.ptr (some (n,_))]=>[n]
 | .func (.func _) [] [.ptr (some (n,_)),.ptr (some (m,_))]=>[n,m]
 |_=>[]
def je(f:Nat->Nat)(x:AV):AV:=match x with
 | .ptr (some (n,o))=>.ptr<|some (f n,o)
 | .slice (some (n,o)) l c=>.slice (some (f n,o)) l c
 | .func (.func g) [] [.ptr (some (n,o))]=>.func (.func g) [] [.ptr<|some (f n,o)]
 | .func (.func g) [] [.ptr (some (n,o)),.ptr (some (m,u))]=>.func (.func g) [] [.ptr<|some (f n,o),.ptr<|some (f m,u)]
 |x=>x
def gb(x:AV):Bool:=or x.hi<|not (tq x).isEmpty
def cY(args:List AV):List Nat:=(args.map tq).flatten
def jB(N:List Nat)(n:Nat):Nat:=match N with
 |[]=>0
 |m::N=>if n=m then 0 else jB N n+1
noncomputable section
def na:List Nat->M (List<|List AV)
 |[]=>M.pure []
 |n::l=>(a9 n).bind fun o=>aG (rowOf o) fun cs=>aB (and (cs.all AV.bO)<|Nat.blt n top) <| (na l).bind fun r=>M.pure<|cs::r
def mq(c:Option<|List AV)(ax:List<|List AV):List<|List AV:=match c,ax with
 |some c,_::r=>c::r
 |_,r=>r
def nn(N:List Nat)(p:AV×Option (List AV)):M AV:=match p.2,N with
 |none,_=>M.pure p.1
 |some c,n::_=>aB (and (c.all AV.bO)<|Nat.ble c.length top) <| (ba n<|some<|ak c).bind fun _=>M.pure p.1
 |some _,[]=>fail
def eH(val:List AV->List (List AV)->Option (AV×Option (List AV)))(ae:Nat)(ns:List Nat)(h0:Tr U):aJ->List AV->M AV:=fun _ args=>aB (and (args.all gb)<|Nat.ble (cY args).length 2) <| og (cY args).Nodup <| (gM ae h0 ns).bind fun _=>(na<|cY args).bind fun ax=>aG (val (args.map<|je fun n=>ae+jB (cY args) n) ax) fun p=>aB p.1.hi <| nn (cY args) p
end
theorem U5.na:∀l,U5 (na l)
 |[]=>U5.pure _
 |_::l=>U5.bind (U5.a9 _) fun _=>U5.aG fun _ _=>U5.aB fun _=>U5.bind (U5.na l) fun _=>U5.pure _
theorem U5.nn(N:List Nat)(p:AV×Option (List AV)):U5<|nn N p:=by
 unfold Rn.nn;split
 ·exact U5.pure _
 ·exact U5.aB fun _=>U5.bind (U5.ba _ _) fun _=>U5.pure _
 ·exact U5.fail
theorem U5.eH(val:List AV->List (List AV)->Option (AV×Option (List AV)))(ae:Nat)(ns:List Nat)(h0:Tr U)(U7:aJ)(args:List AV):U5<|eH val ae ns h0 U7 args:=U5.aB fun _=>U5.og <| U5.bind (U5.gM ae h0 ns) fun _=>U5.bind (U5.na _) fun _=>U5.aG fun _ _=>U5.aB fun _=>U5.nn _ _
noncomputable def wm:Nat->List Nat->List (List AV)->Vw
 |k,n::N,cs::ax=>(k,n,ak cs)::wm (k+1) N ax
 |_,_,_=>[]
noncomputable def qJ:Nat->List (List AV)->List (Nat×Option U)
 |_,[]=>[]
 |k,cs::ax=>(k,some<|ak cs)::qJ (k+1) ax
noncomputable def AZ:List Nat->List (List AV)->List (Nat×U)
 |n::N,cs::ax=>(n,ak cs)::AZ N ax
 |_,_=>[]
theorem IZ:∀{k:Nat} {N:List Nat} {ax:List<|List AV} {p:Nat×Nat×U},p∈wm k N ax->∃(i n:Nat) (cs:List AV),N[i]? =some n/\ax[i]? =some cs/\p=(k+i,n,ak cs)
 |k,n::N,cs::ax,p,h=>by
  rcases List.mem_cons.1 h with rfl|h
  ·exact⟨0,n,cs,rfl,rfl,rfl⟩
  ·obtain⟨i,n',c',h1,h2,h3⟩:=IZ h;exact⟨i+1,n',c',h1,h2,by rw[h3,Nat.add_assoc,Nat.add_comm 1 i]⟩
theorem DP:∀{k:Nat} {N:List Nat} {ax:List<|List AV} {i n:Nat} {cs:List AV},N[i]? =some n->ax[i]? =some cs->(k+i,n,ak cs)∈wm k N ax
 |k,n::N,cs::ax,0,n',wk,h1,h2=>by cases h1;cases h2;exact List.mem_cons_self
 |k,n::N,cs::ax,i+1,n',wk,h1,h2=>by refine List.mem_cons_of_mem _ ?_;have:=DP (k:=k+1) (N:=N) (ax:=ax) (i:=i) h1 h2;rw[show k+(i+1)=k+1+i by omega];exact this
theorem It:∀{k:Nat} {N:List Nat} {ax:List<|List AV},N.length=ax.length->pc (s9<|wm k N ax)=qJ k ax
 |k,[],[],_=>rfl
 |k,n::N,cs::ax,h=>by have:=It (k:=k+1) (N:=N) (ax:=ax)<|Nat.succ.inj h;show(k,some<|ak cs)::pc (s9<|wm (k+1) N ax)=_;rw[this];rfl
 |k,[],_::_,h=>by cases h
 |k,_::_,[],h=>by cases h
theorem HT:∀{N:List Nat} {ax:List<|List AV} {n:Nat} {q:U},(n,q)∈AZ N ax->∃(i:Nat) (cs:List AV),N[i]? =some n/\ax[i]? =some cs/\q=ak cs
 |n::N,cs::ax,m,q,h=>by
  rcases List.mem_cons.1 h with e|h
  ·injection e with e1 e2
   exact⟨0,cs,by rw[e1];rfl,rfl,e2⟩
  ·obtain⟨i,c',h1,h2,h3⟩:=HT h;exact⟨i+1,c',h1,h2,h3⟩
theorem Iu:∀{N:List Nat} {ax:List<|List AV} {i n:Nat} {cs:List AV},N[i]? =some n->ax[i]? =some cs->(n,ak cs)∈AZ N ax
 |n::N,cs::ax,0,n',wk,h1,h2=>by cases h1;cases h2;exact List.mem_cons_self
 |n::N,cs::ax,i+1,n',wk,h1,h2=>List.mem_cons_of_mem _<|Iu (i:=i) h1 h2
theorem I0:∀{N:List Nat} {n:Nat},n∈N->N[jB N n]? =some n
 |m::N,n,h=>by
  unfold jB;split
  ·rename_i e;rw[e];rfl
  ·rename_i e;rcases List.mem_cons.1 h with q|q
   ·exact absurd q e
   ·exact I0 q
theorem Iv{N:List Nat}(h:N.Nodup){i j n:Nat}(h1:N[i]? =some n)(h2:N[j]? =some n):i=j:=by obtain⟨a,e1⟩:=List.getElem?_eq_some_iff.1 h1;obtain⟨b,e2⟩:=List.getElem?_eq_some_iff.1 h2;exact(List.getElem_inj h).1<|e1.trans e2.symm
theorem Hj:∀{N:List Nat} {s s1:AS} {ax:List<|List AV},na N s= .ok ax s1->(s1.h=s.h/\s1.nx=s.nx)/\N.length=ax.length/\∀(i n:Nat) (cs:List AV),N[i]? =some n->ax[i]? =some cs->(s.h.get n=some (ak cs)/\cs.length<=top/\cs.all AV.bO=true/\n<top)
 |[],s,s1,ax,h=>by obtain⟨rfl,rfl⟩:=aQ h;exact⟨⟨rfl,rfl⟩,rfl,fun i n cs h=>by cases h⟩
 |m::N,s,s1,ax,h=>by
  obtain⟨o,s2,k1,h⟩:=M.aL h;obtain⟨c,m1,h⟩:=bd h;obtain⟨cO,h⟩:=bP h;obtain⟨cO,aW⟩:=and_true.1 cO;obtain⟨r,s3,k2,h⟩:=M.aL h;obtain⟨rfl,rfl⟩:=aQ h;obtain⟨rfl,yM⟩:=Oq m1;obtain⟨b1,b2,b3,b4⟩:=eS k1;obtain⟨⟨c1,c2⟩,c3,c4⟩:=Hj k2;refine⟨⟨c1.trans b3,c2.trans b4⟩,congrArg Nat.succ c3,fun i n cs h1 h2=>?_⟩;cases i with
  |zero=>cases h1;cases h2;exact⟨b2,yM,cO,(blt_eq _ _).mp aW⟩
  |succ i=>rw[←b3];exact c4 i n cs h1 h2
theorem QQ{ρ σ:aj}{f:Nat->Nat}{x:AV}{v:Value}(hi:jW ρ σ)(h:gb x=true)(hf:∀n∈tq x,σ (f n)=ρ n)(k:VR ρ x v):VR σ (je f x) v:=by
 unfold je;split
 ·rename_i n o;simp only[VR] at k ⊢;rw[hf n List.mem_cons_self];exact k
 ·rename_i n o l c;have e:=hf n List.mem_cons_self;cases c with
  |known c=>simp only[VR] at k ⊢;rw[e];exact k
  |aU a b=>simp only[VR] at k ⊢;rw[e];exact k
  |lost=>simp only[VR] at k ⊢;rw[e];exact k
 ·rename_i g n o;have e:=hf n List.mem_cons_self;simp only[VR,av] at k ⊢;rw[e];exact k
 ·rename_i g n o m u;have e:=hf n List.mem_cons_self;have e2:=hf m<|List.mem_cons_of_mem _ List.mem_cons_self;simp only[VR,av] at k ⊢;rw[e,e2];exact k
 ·rename_i h1 h2 h3 h4;have e:tq x=[]:=by
   unfold tq;split
   ·exact absurd rfl<|h1 _ _
   ·exact absurd rfl<|h2 _ _ _ _
   ·exact absurd rfl<|h3 _ _ _
   ·exact absurd rfl<|h4 _ _ _ _ _
   ·rfl
  have hx:x.hi=true:=by
   unfold gb at h;rw[e] at h;cases q:x.hi with
   |true=>rfl
   |false=>rw[q] at h;cases h
  exact AV.vu hi hx k
theorem I1{ρ σ:aj}{f:Nat->Nat}(hi:jW ρ σ):∀{l:List AV} {vs:List Value},l.all gb=true->(∀n∈cY l,σ (f n)=ρ n)->av ρ l vs->av σ (l.map<|je f) vs
 |[],_,_,_,h=>by simpa only[av,List.map_nil] using h
 |x::l,vs,h1,h2,h=>by obtain⟨a1,a2⟩:=and_true.1 (show(gb x&&l.all gb)=true from h1);simp only[List.map_cons,av] at h ⊢;obtain⟨v,vr,e,k1,k2⟩:=h;exact⟨v,vr,e,QQ hi a1 (fun n hn=>h2 n<|List.mem_append_left _ hn) k1,I1 hi a2 (fun n hn=>h2 n<|List.mem_append_right _ hn) k2⟩
def yp(ae:Nat)(P:Program)(rs:List ResultVar)(y:AV)(ax:List<|List AV):=Fin P rs fun y1 s'=>y1=y/\∀(i:Nat) (cs:List AV),ax[i]? =some cs->s'.h.get (ae+i)=some (ak cs)
theorem Pg{c:Option<|List AV}{ax:List<|List AV}:(mq c ax).length=ax.length:=by unfold mq;split<;>rfl
end Go.Rn
namespace Go.Rn
open Go.RowKit
theorem Ou{P:Program}{B:aH}{f ae:Nat}{ns:List Nat}{h0:Tr U}{kn:List<|Nat×Option U}{val:List AV->List (List AV)->Option (AV×Option (List AV))}{fn:Func}{body:Code}{ρ:aj}{w:World}{s s1:AS}(hP:du P)(cI:P.funcs[f]? =some fn)(di:fn.body=some body)(eT:(fn.name == "runtime.NumGoroutine")=false)(pV:gj<=ae)(gG:ae+2<=top)(ga:∀n o,n<top->h0.get n=some o->n∈ns)(gT:∀n∈ns,n<ae)(oC:∀n o,(n,some o)∈kn->h0.get n=some o)(wh:∀p∈kn,p.1<top)(iG:∀args ax y c,val args ax=some (y,c)->max fn.ntmps args.length<=top/\∀B':aH,B'.F=B.F->B'.inv=B.inv->
 bw P B' (ae+ax.length) (yp ae P fn.results.toList y<|mq c ax) ⟨f,bG args,max fn.ntmps args.length,[.code body],[],none⟩ ⟨kD<|kn++qJ ae ax,ae+ax.length,0,[],[]⟩){U7:aJ}{args:List AV}{x:AV}{vs:Array Value}(r:Rel B ρ s.h w)(hg:eh ρ)(h:eH val ae ns h0 U7 args s= .ok x s1)(hv:av ρ args vs.toList):fZ P ((callFunc f vs).run P w)<|gC B ρ s s1 w x:=by
 unfold eH at h;obtain⟨cO,h⟩:=bP h;obtain⟨BM,Ls⟩:=and_true.1 cO;obtain⟨pS,h⟩:=Oo h;have Ls:=aK.1 Ls;obtain⟨u,s2,h2,h⟩:=M.aL h;obtain⟨a1,a2,a3⟩:=zC h2;obtain⟨ax,s3,k1,h⟩:=M.aL h;obtain⟨p,hp,h⟩:=bd h;obtain⟨T7,h⟩:=bP h;obtain⟨y,c⟩:=p;obtain⟨⟨b1,b2⟩,hlen,b3⟩:=Hj k1;have aC:∀(i n:Nat) (cs:List AV),(cY args)[i]? =some n->ax[i]? =some cs->s.h.get n=some (ak cs)/\cs.length<=top/\cs.all AV.bO=true/\n<top:=fun i n cs e1 e2=>by rw[←a1];exact b3 i n cs e1 e2
 have gV:ax.length<=2:=by omega
 have vI:x=y/\(s1.nx=s.nx)/\(∀c0,c=some c0->c0.length<=top/\c0.all AV.bO=true)/\(∀(i n:Nat) (cs:List AV),(cY args)[i]? =some n->(mq c ax)[i]? =some cs->s1.h.get n=some (ak cs))/\∀k,k<top->k ∉ cY args->s1.h.get k=s.h.get k:=by
  unfold nn at h;cases c with
  |none=>obtain⟨rfl,rfl⟩:=aQ h;refine⟨rfl,b2.trans a2,fun c0 q=>(by cases q),fun i n cs e1 e2=>?_,fun k _ _=>by rw[b1,a1]⟩;rw[b1,a1];exact(aC i n cs e1 e2).1
  |some c0=>
   generalize VD:cY args=N at*;cases N with
   |nil=>cases h
   |cons n N=>
    obtain⟨q,h⟩:=bP h;obtain⟨_,t1,w1,h⟩:=M.aL h;obtain⟨rfl,rfl⟩:=aQ h;obtain⟨x1,x2,_,x4,x5⟩:=hY w1;obtain⟨q1,q2⟩:=and_true.1 q;cases ax with
    |nil=>cases hlen
    |cons FD ax=>
     refine⟨rfl,x5.trans<|b2.trans a2,fun c1 e=>(by cases e;exact⟨aK.1 q2,q1⟩),fun i m cs e1 e2=>?_,fun k hk hn=>?_⟩
     ·obtain⟨g,_,_,hm⟩:=aC i m (if i=0 then FD else cs) e1 (by cases i with|zero=>rfl|succ i=>exact e2);rw[x4,Tr.cV _ _ _ _ x2 hm];cases i with
      |zero=>cases e1;cases e2;rw[if_pos rfl]
      |succ i=>
       have:m≠n:=fun e=>by subst e;have:=Iv pS (i:=0) (j:=i+1) rfl e1;cases this
       rw[if_neg this,b1,a1];exact g
     ·rw[x4,Tr.cV _ _ _ _ x2 hk,if_neg fun e=>hn (by rw[e];exact List.mem_cons_self),b1,a1]
 obtain⟨rfl,bq,mD,jV,hold⟩:=vI;have pQ:(mq c ax).length=ax.length:=Pg;have E6:∀(i:Nat) (cs:List AV),(mq c ax)[i]? =some cs->∃n,(cY args)[i]? =some n/\cs.length<=top/\cs.all AV.bO=true:=fun i cs e=>by
  have hi:i<ax.length:=by rw[←pQ];exact(List.getElem?_eq_some_iff.1 e).1
  have e1:(cY args)[i]? =some ((cY args)[i]'(by omega)):=List.getElem?_eq_getElem (by omega);refine⟨_,e1,?_⟩;have k0:=aC i _ _ e1<|List.getElem?_eq_getElem hi;cases c with
  |none=>have:(mq none ax)=ax:=rfl;rw[this,List.getElem?_eq_getElem hi] at e;cases e;exact⟨k0.2.1,k0.2.2.1⟩
  |some c0=>
   cases ax with
   |nil=>cases hi
   |cons FD ax=>
    cases i with
    |zero=>cases e;exact mD _ rfl
    |succ i=>have e:ax[i]? =some cs:=e;have bR:i<ax.length:=Nat.lt_of_succ_lt_succ hi;rw[List.getElem?_eq_getElem bR] at e;cases e;exact⟨k0.2.1,k0.2.2.1⟩
 let V:Vw:=wm ae (cY args) ax;have mem:∀q∈V,∃(i n:Nat) (cs:List AV),(cY args)[i]? =some n/\ax[i]? =some cs/\q=(ae+i,n,ak cs):=fun q hq=>IZ hq;have hi:jW ρ<|kI ae ρ V:=fun m x hm e=>by rw[xl (by omega) hm];exact e
 have zd:∀{L:List<|List AV} {i:Nat} {cs:List AV},L[i]? =some cs->i<L.length:=fun e=>(List.getElem?_eq_some_iff.1 e).1;have hV:y9 ae ρ s.h V:=by
  refine⟨fun q hq=>?_,fun q hq q' dk e=>?_,fun q hq q' dk e=>?_,fun q hq=>?_⟩
  ·obtain⟨i,n,cs,e1,e2,rfl⟩:=mem q hq;have:=zd e2;exact⟨Nat.le_add_right _ _,by show ae+i<top;omega,(aC i n cs e1 e2).2.2.2⟩
  ·obtain⟨i,n,cs,e1,e2,rfl⟩:=mem q hq;obtain⟨j,m,ds,f1,f2,rfl⟩:=mem q' dk;have e:ae+i=ae+j:=e;obtain rfl:i=j:=by omega
   rw[e1] at f1;rw[e2] at f2;cases f1;cases f2;rfl
  ·obtain⟨i,n,cs,e1,e2,rfl⟩:=mem q hq;obtain⟨j,m,ds,f1,f2,rfl⟩:=mem q' dk;have e:n=m:=e;subst e;obtain rfl:=Iv pS e1 f1;rw[e2] at f2;cases f2;rfl
  ·obtain⟨i,n,cs,e1,e2,rfl⟩:=mem q hq;obtain⟨g,g2,g3,_⟩:=aC i n cs e1 e2;exact⟨_,g,.inl ⟨rfl,rfl,fun N o' hO=>J6 hi g2 g3 hO⟩⟩
 obtain⟨_,dR,T⟩:=r.tk;have T:EP B ρ s.h w dR:=T;have vQ:=RP (by omega) r T ga gT oC wh (fun n hn=>by obtain⟨_,o,p,h⟩:=a3 n hn;exact⟨o,p,h⟩) hV;have SR:pc (s9 V)=qJ ae ax:=It hlen;rw[SR] at vQ;obtain⟨q1,q2⟩:=iG _ _ _ _ hp;have fi:aS (⟨kD<|kn++qJ ae ax,ae+ax.length,0,[],[]⟩:AS):=⟨Nat.zero_le _,by show ae+ax.length<=top;omega⟩;have kN:av (kI ae ρ V) (args.map<|je fun n=>ae+jB (cY args) n) vs.toList:=I1 hi BM (fun n hn=>by
  have e1:=I0 hn;have aW:jB (cY args) n<ax.length:=by rw[←hlen];exact(List.getElem?_eq_some_iff.1 e1).1
  exact hV.oG<|DP e1<|List.getElem?_eq_getElem aW) hv
 have bh:=bw.QM (B:=AX B ρ w<|wH ρ dR V) (s:=⟨kD<|kn++qJ ae ax,ae+ax.length,0,[],[]⟩) (args:=args.map<|je fun n=>ae+jB (cY args) n) (vs:=vs) hP cI di q1 (q2 _ rfl rfl) fi vQ (fun g mJ=>by
  obtain⟨N,e⟩:=hg g mJ;exact⟨N,by rw[Dv<|Nat.lt_of_lt_of_le mJ pV];exact e⟩) (fun m hm gI=>by
  have hm:ae+ax.length<=m:=hm;exact On (by omega) gI fun q hq=>by obtain⟨i,n,cs,e1,e2,rfl⟩:=mem q hq;have:=zd e2;show ae+i≠m;omega) kN
 rw[B9 cI di eT];show Calls P f vs w _;refine bh.mono fun e w'=>?_;rintro ⟨T8,x',s7,rfl,⟨rfl,j1⟩,_,σ,i0,T9,i1,i2,i3⟩;have sV:∀q∈V,σ q.1=ρ q.2.1:=fun q hq=>by obtain⟨i,n,cs,e1,e2,rfl⟩:=mem q hq;have:=zd e2;exact(i0 (ae+i) (by show ae+i<ae+ax.length;omega)<|by omega).trans<|hV.oG hq
 have Lt:jW σ<|dI ρ σ:=fun k x hk e=>by unfold dI;rw[if_pos hk];exact e
 obtain⟨f1,f2,f3,f4⟩:=QP (a:=s.nx) (L2:=AZ (cY args)<|mq c ax) (h':=s1.h) r T hV i2 i3 sV (fun m z hm q=>T9 m z hm<|hi m z hm q) (fun m q hm=>by
  obtain⟨i,cs,e1,e2,rfl⟩:=HT hm;have bR:i<ax.length:=by rw[←pQ];exact zd e2
  obtain⟨_,_,g2,g3⟩:=E6 i cs e2;exact⟨_,DP e1<|List.getElem?_eq_getElem bR,rfl,_,j1 i cs e2,.inl ⟨rfl,rfl,fun N o' hO=>J6 Lt g2 g3 hO⟩⟩) (fun q hq cn=>by
  obtain⟨i,n,cs,e1,e2,rfl⟩:=mem q hq;have bR:i<(mq c ax).length:=by rw[pQ];exact zd e2
  exact⟨_,j1 i _<|List.getElem?_eq_getElem bR,rfl⟩) (fun m hm=>by
  by_cases q:m∈cY args
  ·obtain⟨i,bR,e⟩:=List.mem_iff_getElem.1 q;have e1:(cY args)[i]? =some m:=by rw[List.getElem?_eq_getElem bR,e]
   have rp:i<(mq c ax).length:=by omega
   have e2:=List.getElem?_eq_getElem rp;exact .inl ⟨_,Iu e1 e2,jV i m _ e1 e2⟩
  ·refine .inr ⟨fun p hp=>?_,hold m hm q⟩;obtain⟨i,n,cs,e1,e2,rfl⟩:=mem p hp;exact fun e=>q (by rw[←show n=m from e];exact List.mem_of_getElem? e1))
 refine⟨T8,rfl,dI ρ σ,?_,AV.vu Lt T7 i1,f3,f4⟩;rw[bq];exact f1
section
variable {X:TX} {P:Program} {ae:Nat} {ns:List Nat} {h0:Tr U} {kn:List<|Nat×Option U} {L L':bY} {g:Nat} {fn:Func} {body:Code}
theorem Ph(hP:du P)(pV:gj<=ae)(gG:ae+2<=top)(ga:∀n o,n<top->h0.get n=some o->n∈ns)(gT:∀n∈ns,n<ae)(oC:∀n o,(n,some o)∈kn->h0.get n=some o)(wh:∀p∈kn,p.1<top){val:List AV->List (List AV)->Option (AV×Option (List AV))}(h:iU X ae P<|eZ ae ns h0 L)(h':iU X ae P<|eZ ae ns h0 L')(cI:P.funcs[g]? =some fn)(di:fn.body=some body)(eT:(fn.name == "runtime.NumGoroutine")=false)(iG:∀args ax y c,val args ax=some (y,c)->max fn.ntmps args.length<=top/\∀B:aH,Bo X P ae ns h0 L' B->
 bw P B (ae+ax.length) (yp ae P fn.results.toList y<|mq c ax) ⟨g,bG args,max fn.ntmps args.length,[.code body],[],none⟩ ⟨kD<|kn++qJ ae ax,ae+ax.length,0,[],[]⟩):iU X ae P<|eZ ae ns h0<|(g,.raw<|eH val)::L:=by
 refine(show iU X ae P (vN (eZ ae ns h0 L) g<|eH val ae ns h0) from h.bB (fun U7 _ args=>U5.eH _ _ _ _ U7 args) fun B hB hT U7 hc hl args x s s1 ρ w vs fi r hg hf hm hv=>?_);refine Ou hP cI di eT pV gG ga gT oC wh (fun args ax y c e=>?_) r hg hm hv;obtain⟨q1,q2⟩:=iG args ax y c e;exact⟨q1,fun B' Fx Fy=>q2 B'<|EO hP h' (Fx.trans hB)<|Fy.trans hT⟩
end
noncomputable section
def xP:List Nat->List (List AV)->AS->Prop
 |n::N,cs::ax,s=>(Nat.blt n s.nx=true/\s.h.get n=some (ak cs))/\xP N ax s
 |_,_,_=>True
def vA:List Nat->AS->AS
 |n::N,s=>vA N<|aN n s
 |[],s=>s
def qK(ae:Nat)(h0:Tr U)(ns:List Nat)(N:List Nat)(ax:List<|List AV)(s:AS):Prop:=yk ae h0 ns s=true/\xP N ax (mm ae h0 ns s)
def xQ(ae:Nat)(h0:Tr U)(ns:List Nat)(N:List Nat)(s:AS):AS:=vA N<|mm ae h0 ns s
def En(ae:Nat)(h0:Tr U)(ns:List Nat)(n:Nat)(N:List Nat)(c:List AV)(s:AS):AS:=eY n (some<|ak c)<|vA (n::N)<|mm ae h0 ns s
end
theorem I2:∀(N:List Nat) (s:AS),(vA N s).h=s.h/\(vA N s).nx=s.nx
 |[],s=>⟨rfl,rfl⟩
 |n::N,s=>by obtain⟨a,b⟩:=I2 N<|aN n s;exact⟨a.trans (fW n s).1,b.trans (fW n s).2.1⟩
theorem Iw{m:Nat}:∀{N:List Nat} {ax:List<|List AV} {s:AS},xP N ax s->xP N ax (aN m s)
 |[],_,_,_=>trivial
 |_::_,[],_,_=>trivial
 |n::N,cs::ax,s,⟨⟨a,b⟩,c⟩=>⟨⟨by rw[(fW m s).2.1];exact a,by rw[(fW m s).1];exact b⟩,Iw c⟩
theorem CS:∀{N:List Nat} {ax:List<|List AV} {s:AS},N.length=ax.length->xP N ax s->(N.all fun n=>Nat.blt n top)=true->(ax.all fun cs=>and (cs.all AV.bO)<|Nat.ble cs.length top)=true->na N s= .ok ax (vA N s)
 |[],[],s,_,_,_,_=>rfl
 |[],_::_,_,h,_,_,_=>by cases h
 |_::_,[],_,h,_,_,_=>by cases h
 |n::N,cs::ax,s,h,⟨⟨a,b⟩,c⟩,h2,h3=>by obtain⟨h2,h4⟩:=and_true.1 (show(Nat.blt n top&&(N.all fun n=>Nat.blt n top))=true from h2);obtain⟨h3,h5⟩:=and_true.1 (show((cs.all AV.bO&&Nat.ble cs.length top)&&(ax.all fun cs=>and (cs.all AV.bO)<|Nat.ble cs.length top))=true from h3);obtain⟨h6,h7⟩:=and_true.1 h3;show((a9 n).bind fun o=>aG (rowOf o) fun cs=>aB (and (cs.all AV.bO)<|Nat.blt n top) <| (na N).bind fun r=>M.pure<|cs::r) s=_;rw[M.bg<|ko a b,Ot<|aK.1 h7,aO,h6,h2,show and true true=true from rfl,bD,M.bg<|CS (Nat.succ.inj h) (Iw c) h4 h5];rfl
section
variable {P:Program} {F:Nat->Option (List AV)} {sp:Sp} {g n ae:Nat} {h0:Tr U} {ns:List Nat} {val:List AV->List (List AV)->Option (AV×Option (List AV))} {args:List AV} {N:List Nat} {ax:List<|List AV} {y:AV}
theorem xA(h:sp g=some (eH val ae ns h0))(hN:cY args=N)(ha:(args.all gb&&Nat.ble N.length 2)=true)(hd:N.Nodup)(hl:N.length=ax.length)(ht:(N.all fun n=>Nat.blt n top)=true)(hc:(ax.all fun cs=>and (cs.all AV.bO)<|Nat.ble cs.length top)=true)(hv:val (args.map<|je fun n=>ae+jB N n) ax=some (y,none))(hy:y.hi=true):
 ∀s,qK ae h0 ns N ax s->br P sp F (n+1) (.fn g) args s= .ok y (xQ ae h0 ns N s):=fun s q=>by
 obtain⟨hk,hq⟩:=q;subst hN;show gX P sp g (br P sp F n) args s=_;rw[sP h];show(aB (and (args.all gb)<|Nat.ble (cY args).length 2) <| og (cY args).Nodup <| (gM ae h0 ns).bind fun _=>(na<|cY args).bind fun ax=>aG (val (args.map<|je fun n=>ae+jB (cY args) n) ax) fun p=>aB p.1.hi <| nn (cY args) p) s=_;rw[ha,bD,Ir hd,M.bg<|xx hk,M.bg<|CS hl hq ht hc,hv,aO];show(aB y.hi <| nn (cY args) (y,none)) _=_;rw[hy,bD];unfold nn;rfl
theorem Jx{m:Nat}{c:List AV}(h:sp g=some (eH val ae ns h0))(hN:cY args=m::N)(ha:(args.all gb&&Nat.ble (m::N).length 2)=true)(hd:(m::N).Nodup)(hl:(m::N).length=ax.length)(ht:((m::N).all fun n=>Nat.blt n top)=true)(hc:(ax.all fun cs=>and (cs.all AV.bO)<|Nat.ble cs.length top)=true)(hv:val (args.map<|je fun n=>ae+jB (m::N) n) ax=some (y,some c))(hy:y.hi=true)(Ua:(c.all AV.bO&&Nat.ble c.length top)=true):
 ∀s,qK ae h0 ns (m::N) ax s->br P sp F (n+1) (.fn g) args s= .ok y (En ae h0 ns m N c s):=fun s q=>by
 obtain⟨hk,hq⟩:=q;show gX P sp g (br P sp F n) args s=_;rw[sP h];show(aB (and (args.all gb)<|Nat.ble (cY args).length 2) <| og (cY args).Nodup <| (gM ae h0 ns).bind fun _=>(na<|cY args).bind fun ax=>aG (val (args.map<|je fun n=>ae+jB (cY args) n) ax) fun p=>aB p.1.hi <| nn (cY args) p) s=_;rw[hN,ha,bD,Ir hd,M.bg<|xx hk,M.bg<|CS hl hq ht hc,hv,aO];show(aB y.hi <| nn (m::N) (y,some c)) _=_;rw[hy,bD];show(aB (c.all AV.bO&&Nat.ble c.length top) <| (ba m<|some<|ak c).bind fun _=>M.pure y) _=_;rw[Ua,bD];cases ax with
 |nil=>cases hl
 |cons c0 ax=>obtain⟨⟨k1,k2⟩,_⟩:=hq;obtain⟨e1,e2⟩:=I2 (m::N)<|mm ae h0 ns s;rw[M.bg<|qj (by rw[e2];exact k1) (by rw[e1];exact k2) rfl (and_true.1 (show(Nat.blt m top&&_)=true from ht)).1];rfl
end
section
variable {P:Program} {B:aH} {n ae:Nat} {rs:List ResultVar} {y:AV} {c1 c2:List AV} {fr:AF} {s:AS}
theorem bw.mono{Q Q':Tr AV->List Nat->Option Code->AS->Prop}(h:bw P B n Q fr s)(hq:∀t d j s,Q t d j s->Q' t d j s):bw P B n Q' fr s:=fun ρ w b a cs h1 h2 h3=>by obtain⟨aX,j,s1,σ,a',w',q,r⟩:=h ρ w b a cs h1 h2 h3;exact⟨aX,j,s1,σ,a',w',hq _ _ _ _ q,r⟩
theorem tb(h:bw P B n (Fin P rs fun v s=>v=y/\s.h.get ae=some (ak c1)) fr s):bw P B n (yp ae P rs y [c1]) fr s:=
 h.mono fun t d j s=>by
  rintro ⟨x,s3,e,h1,h2⟩;refine⟨x,s3,e,h1,fun i cs k=>?_⟩
  match i,k with
  |0,k=>cases k;exact h2
  |i+1,k=>cases k
theorem tc(h:bw P B n (Fin P rs fun v s=>v=y/\s.h.get ae=some (ak c1)/\s.h.get (ae+1)=some (ak c2)) fr s):bw P B n (yp ae P rs y [c1,c2]) fr s:=
 h.mono fun t d j s=>by
  rintro ⟨x,s3,e,h1,h2,h3⟩;refine⟨x,s3,e,h1,fun i cs k=>?_⟩
  match i,k with
  |0,k=>cases k;exact h2
  |1,k=>cases k;exact h3
  |i+2,k=>cases k
end
end Go.Rn
namespace Go.Rn
open Go.RowKit
end Go.Rn
namespace Go.Rn
open Go.RowKit
end Go.Rn
namespace Go.Rn
open Go.RowKit
def cR(p:Int×Int):List AV:=[.int .i64 p.1,.int .i64 p.2]
theorem Ov(x y:Int×Int)(h:cR x=cR y):x=y:=by obtain⟨a,b⟩:=x;obtain⟨c,d⟩:=y;simp only[cR,List.cons.injEq,AV.int.injEq,true_and,_root_.and_true] at h;rw[h.1,h.2]
section
variable {P:Program} {B:aH} {ρ:aj} {w:World} {s s1:AS} {f g:FuncId}
end
end Go.Rn
namespace Go.Rn
open Go.RowKit
def fF{α:Type}(enc:α->List AV)(K:Nat)(a:AV)(l:List α):Prop:=∃n o,a= .ch n o l.length/\top<=n/\∀(i:Nat) c,l[i]? =some c->fj FU n (o+i*K) K=some (enc c)
theorem fF.aq{α:Type}{enc:α->List AV}{K:Nat}(he:lB K enc)(l:List α):fF enc K (aq enc l) l:=⟨_,0,rfl,bj _,fun i c hc=>by have:=qy he hc 0 K (by omega);rw[Nat.zero_add];rw[Nat.add_zero,List.drop_zero, ←he.len c,List.take_length] at this;rw[he.len c] at this;exact this⟩
theorem fF.inj{α:Type}{enc:α->List AV}{K:Nat}{a:AV}{l m:List α}(vM:∀x y,enc x=enc y->x=y)(h:fF enc K a l)(k:fF enc K a m):l=m:=by
 obtain⟨n,o,rfl,_,h2⟩:=h;obtain⟨n',o',e,_,k2⟩:=k;injection e with e1 e2 e3
 subst e1;subst e2;refine List.ext_getElem? fun i=>?_;by_cases q:i<l.length
 ·have a1:l[i]? =some l[i]:=List.getElem?_eq_getElem q;have a2:m[i]? =some (m[i]'(by omega)):=List.getElem?_eq_getElem (by omega);have b1:=h2 i _ a1;have b2:=k2 i _ a2;rw[b1] at b2;injection b2 with b2
  rw[a1,a2,vM _ _ b2]
 ·rw[List.getElem?_eq_none (by omega),List.getElem?_eq_none<|by omega]
theorem PX{α:Type}{fz:gD}{r:Nat->Nat}{enc:α->List AV}{l:List α}{n:Nat}{cap:aZ}(hm:(n,nm (l.map enc).flatten,(l.map enc).flatten)∈fz)(hr:∀k,top<=k->r k=k)(hc:(match cap with| .known c=>Nat.ble l.length c| .aU _ _=>true| .lost=>false)=true):gQ fz r (.slice (some (n,0)) l.length cap)<|aq enc l:=by
 intro ρ iK v zb hv;have:∃b N c,ρ n=some (b,N)/\v= .slice (some ⟨b,0,none⟩) l.length c/\l.length<=c:=by
  cases cap with
  |known c=>simp only[VR] at hv;obtain⟨b,N,e,hv⟩:=hv;exact⟨b,N,c,e,hv,aK.1 hc⟩
  |aU lo e0=>simp only[VR] at hv;obtain⟨b,N,c,e,hv,_,h,_⟩:=hv;exact⟨b,N,c,e,hv,h⟩
  |lost=>cases hc
 obtain⟨b,N,c,e,rfl,hle⟩:=this;have hk:=zb.2.2 _ hm b N e;unfold aq;simp only[VR];exact .inr ⟨b,0,c,.inr ⟨bj _,fun z=>hk<|(congrArg iK<|hr _<|fI _ _ _).symm.trans z⟩,rfl,fun _=>⟨hle,(xL _).1⟩⟩
theorem I3{α:Type}{fz:gD}{r:Nat->Nat}{enc:α->List AV}:gQ fz r (.slice none 0<|.known 0)<|aq enc []:=by intro ρ iK v _ hv;simp only[VR] at hv;obtain⟨rfl,_,_⟩:=hv;unfold aq;simp only[VR];exact .inl ⟨bj _,rfl,none,0,rfl,(fun _=>rfl),(fun _=>rfl),fun e=>absurd e (xL _).2⟩
theorem QR{fz:gD}{r:Nat->Nat}{n o len:Nat}(ht:top<=n)(hr:∀k,top<=k->r k=k):gQ fz r (.ch n o len)<|.ch n o len:=(bf.ch (hr n ht) hr).z
theorem dZ{α:Type}{fz:gD}{r:Nat->Nat}{enc:α->List AV}{l:List α}(hr:∀k,top<=k->r k=k):gQ fz r (aq enc l)<|aq enc l:=QR (bj _) hr
theorem PY{α:Type}{K:Nat}{enc:α->List AV}(he:lB K enc){l:List α}(hl:l.length*K<=top)(n:Nat)(hn:n<top){o0:List<|Nat×Option U}(hm:(n,some<|aD enc l)∈o0):
 n<top/\FU (nm (l.map enc).flatten)=some (l.map enc).flatten/\∃N t z,(n,some<|.cells N t z)∈o0/\∀i x,(l.map enc).flatten[i]? =some x->i<N/\cellAt t z i=some x/\x.bu=true/\x.bO=true:=by
 refine⟨hn,El<|he.all l,_,_,_,hm,fun i x hx=>?_⟩;have hi:=(List.getElem?_eq_some_iff.1 hx).1;have hc:=List.all_eq_true.1 (he.all l) x<|List.mem_of_getElem? hx;exact⟨hi,by rw[p6 (by rw[he.length];exact hl) hi];exact hx,CR hc,Ad hc⟩
def oa(fz:gD)(r:Nat->Nat):List AV->List AV->Prop
 |[],[]=>True
 |x::l,y::m=>gQ fz r x y/\oa fz r l m
 |_,_=>False
theorem oa.length{fz:gD}{r:Nat->Nat}:∀{l m:List AV},oa fz r l m->l.length=m.length
 |[],[],_=>rfl
 |_::_,_::_,h=>by simp[oa.length h.2]
 |[],_::_,h=>by cases h
 |_::_,[],h=>by cases h
theorem oa.I{fz:gD}{r:Nat->Nat}:∀{l m:List AV} {i:Nat} {x y:AV},oa fz r l m->l[i]? =some x->m[i]? =some y->gQ fz r x y
 |x::l,y::m,0,a,b,h,h1,h2=>by simp at h1 h2;subst h1;subst h2;exact h.1
 |x::l,y::m,i+1,a,b,h,h1,h2=>oa.I h.2 (by simpa using h1) (by simpa using h2)
 |[],[],_,_,_,_,h1,_=>by simp at h1
 |_::_,[],_,_,_,h,_,_=>by cases h
 |[],_::_,_,_,_,h,_,_=>by cases h
theorem fh.cells{fz:gD}{r:Nat->Nat}{l m:List AV}(hl:l.length<=top)(h:oa fz r l m)(h1:m.all AV.bu=true):fh fz r (.cells l.length (Tr.fill l 0 .nil) [])<|.cells m.length (Tr.fill m 0 .nil) []:=by
 have hlen:=h.length;intro ρ iK N o zb k;obtain⟨c,e,rfl,k1,k2,k3⟩:=k;refine⟨c,e,rfl,k1,by omega,fun i hi=>?_⟩;obtain⟨x,v,a1,a2,a3,a4⟩:=k3 i (by omega);have hx:l[i]? =some x:=by unfold cellAt at a1;rw[Tr.nS _ _ _ _ (by omega),if_pos (by omega),Nat.sub_zero,List.getElem?_eq_getElem<|by omega] at a1;rw[List.getElem?_eq_getElem<|by omega];exact a1
 have hy:m[i]? =some m[i]:=List.getElem?_eq_getElem hi;refine⟨m[i],v,?_,?_,a3,h.I hx hy ρ iK v zb a4⟩
 ·unfold cellAt;rw[Tr.nS _ _ _ _ (by omega),if_pos (by omega),Nat.sub_zero,hy]
 ·exact List.all_eq_true.1 h1 _<|List.getElem_mem hi
open Classical in
noncomputable def gR(R:List AV->AV->Prop)(args:List AV):Option AV:=if h:∃v,R args v then some h.choose else none
theorem qh{R:List AV->AV->Prop}{args:List AV}{v:AV}(h:gR R args=some v):R args v:=by
 unfold gR at h;split at h
 ·rename_i q;injection h with h;rw[←h];exact q.choose_spec
 ·cases h
theorem ql{R:List AV->AV->Prop}(hd:∀args v v',R args v->R args v'->v=v'){args:List AV}{v:AV}(h:R args v):gR R args=some v:=by unfold gR;have q:∃v,R args v:=⟨v,h⟩;rw[dif_pos q,hd _ _ _ q.choose_spec h]
end Go.Rn
namespace Go.Rn
open Go.RowKit
end Go.Rn
namespace Go.Rn
open Go.RowKit
noncomputable section
end
section
variable {P:Program} {U7:aJ} {s s1:AS} {l:Nat}
end
section
variable {l:Nat}
noncomputable section
end
end
end Go.Rn
namespace Go.Rn
open Go.RowKit
end Go.Rn
namespace Go.Rn
open Go.RowKit
section
variable {X:TX} {P:Program} {ae:Nat} {ns:List Nat} {h0:Tr U} {L:bY} {g:Nat} {fn:Func} {body:Code}
end
end Go.Rn
namespace Go.Rn
open Go.RowKit Go.ChangeShapes
abbrev jg:=List<|Nat×Nat×List AV
def Has(σ:aj)(ms:jg):Prop:=∀p∈ms,σ (hn (nm p.2.2) p.1 p.2.1)≠none
def Good(w:World)(ms:jg):Prop:=∀p∈ms,p.2.2.all AV.fX=true/\∃c e fr,w.heap[p.1]? =some (.cells c e fr)/\∀(i:Nat) (x:AV),p.2.2[i]? =some x->∃v,c[p.2.1+i]? =some v/\∀σ,Has σ ms->VR (eL σ) x v
def Is(ms:jg)(x:AV)(v:Value):Prop:=∀σ,Has σ ms->VR (eL σ) x v
theorem Has.sub{σ:aj}{a b:jg}(h:Has σ b)(hs:∀p∈a,p∈b):Has σ a:=fun p hp=>h p<|hs p hp
theorem Is.sub{a b:jg}{x:AV}{v:Value}(h:Is a x v)(hs:∀p∈a,p∈b):Is b x v:=fun σ hh=>h σ<|hh.sub hs
theorem Good.nil{w:World}:Good w []:=fun p hp=>by cases hp
theorem Good.app{w:World}{a b:jg}(h:Good w a)(k:Good w b):Good w<|a++b:=fun p hp=>by
 rcases List.mem_append.1 hp with hp|hp
 ·obtain⟨h1,c,e,fr,h2,h3⟩:=h p hp;exact⟨h1,c,e,fr,h2,fun i x hx=>by obtain⟨v,k1,k2⟩:=h3 i x hx;exact⟨v,k1,fun σ hh=>k2 σ<|hh.sub fun p hp=>List.mem_append_left _ hp⟩⟩
 ·obtain⟨h1,c,e,fr,h2,h3⟩:=k p hp;exact⟨h1,c,e,fr,h2,fun i x hx=>by obtain⟨v,k1,k2⟩:=h3 i x hx;exact⟨v,k1,fun σ hh=>k2 σ<|hh.sub fun p hp=>List.mem_append_right _ hp⟩⟩
section
variable {H:Type} {enc:TypeId×Value->H} {P:Program} {w:World} {base:Nat} {spare:Nat->Bool} {held:Bool}
theorem HU{a:Addr}{n:Nat}{cs:List Value}(h:w.cells? base a n=some cs):cs.length=n/\∀(j:Nat) (x:Value),cs[j]? =some x->w.cell? (a.add j)=some x:=by
 unfold World.cells? at h;split at h
 ·have hlen:cs.length=n:=by simpa using mapM_some_length h
  refine⟨hlen,fun j x hx=>?_⟩;have hj:j<n:=by have:=(List.getElem?_eq_some_iff.1 hx).1;omega
  have:=mapM_some_get h j j (by simp[hj]);exact this.trans hx
 ·cases h
theorem Iy(b o m:Nat):(⟨b,o,none⟩:Addr).add m=⟨b,o+m,none⟩:=by
 unfold Addr.add;split
 ·rename_i h;subst h;rfl
 ·rfl
theorem add_zero(a:Addr):a.add 0=a:=by unfold Addr.add;rw[if_pos rfl]
theorem Oy{t e:TypeId}{K fuel:Nat}{v:Value}{x:DataW H×List MemPlace}(Bf:0<K)(ht:P.underlying t=some (.slice e))(hK:P.cellsOf e=K)(h:DataW.trod enc P w base spare held fuel t [v]=some x):
 (∃a cap,v= .slice a 0 cap/\(a=none->cap=0))\/∃(b o len cap:Nat) (c:Array Value) (el:TypeId) (fr:Nat×Nat) (rows:List<|List Value),v= .slice (some ⟨b,o,none⟩) len cap/\len<=cap/\w.heap[b]? =some (.cells c el fr)/\rows.length=len/\∀(i:Nat) (row:List Value),rows[i]? =some row->row.length=K/\(∃n y,n<fuel/\DataW.trod enc P w base spare held n e row=some y)/\∀(j:Nat) (x:Value),row[j]? =some x->c[o+i*K+j]? =some x:=by
 rcases DataW.trod_slice ht h with⟨h0,_⟩|⟨a,len,cap,elems,rest,n,VK,y5,_,_,hl,_,hlen,Uz,_,_⟩
 ·left;injection h0 with h0 _
  exact⟨none,0,h0,fun _=>rfl⟩
 ·injection y5 with hv _
  subst hv;rcases Nat.eq_zero_or_pos len with rfl|UA
  ·exact .inl ⟨some a,cap,rfl,fun e=>by cases e⟩
  right;have KL:∀i,i<len->∃cs y,w.cells? base (a.add<|i*K) K=some cs/\DataW.trod enc P w base spare held n e cs=some y:=fun i hi=>by have he:=Uz i hi;rw[hK,List.getElem?_eq_getElem<|by omega] at he;obtain⟨cs,h1,h2⟩:=Option.bind_eq_some_iff.1 he;exact⟨cs,_,h1,h2⟩
  obtain⟨FD,_,h1,_⟩:=KL 0 UA;obtain⟨k1,k2⟩:=HU h1;have mD:=k2 0 _ (List.getElem?_eq_getElem<|by omega);rw[Nat.zero_mul,add_zero,add_zero] at mD;have v7:a.spot=none:=World.cell?_spot mD;obtain⟨b,o,sp⟩:=a;simp only at v7;subst v7;unfold World.cell? at mD;simp only at mD;cases hb:w.heap[b]? with
  |none=>rw[hb] at mD;cases mD
  |some ob=>
   rw[hb] at mD;cases ob with
   |cells c el fr=>
    refine⟨b,o,len,cap,c,el,fr,(List.range len).map fun i=>(w.cells? base ((⟨b,o,none⟩:Addr).add<|i*K) K).getD [],rfl,hl,hb,by simp,fun i row dQ=>?_⟩;have hi:i<len:=by have:=(List.getElem?_eq_some_iff.1 dQ).1;simpa using this
    obtain⟨cs,y,h1,h2⟩:=KL i hi;rw[List.getElem?_map,List.getElem?_range hi,Option.map_some,h1] at dQ;injection dQ with dQ
    have RX:cs=row:=dQ;subst RX;obtain⟨k1,k2⟩:=HU h1;refine⟨k1,⟨n,_,by omega,h2⟩,fun j x hx=>?_⟩;have:=k2 j x hx;rw[Iy,Iy] at this;unfold World.cell? at this;simp only[hb] at this;simpa using this
   |_=>cases mD
theorem GV{β:Type}{K:Nat}:∀{l:List<|List β} {i:Nat} {x:β},(∀c∈l,c.length=K)->l.flatten[i]? =some x->∃q j row,l[q]? =some row/\row[j]? =some x/\i=q*K+j
 |[],i,x,_,h=>by simp at h
 |c::l,i,x,hl,h=>by
  have hc:=hl c List.mem_cons_self;rw[List.flatten_cons] at h;by_cases q:i<c.length
  ·rw[List.getElem?_append_left q] at h;exact⟨0,i,c,rfl,h,by omega⟩
  ·rw[List.getElem?_append_right<|by omega] at h;obtain⟨a,j,row,h1,h2,h3⟩:=GV (fun c' h'=>hl c'<|List.mem_cons_of_mem _ h') h;exact⟨a+1,j,row,by simpa using h1,h2,by rw[Nat.add_mul,Nat.one_mul];omega⟩
def xR{α:Type}(w:World)(ah:α->List AV)(Q:α->Prop)(row:List Value)(a:α)(ms:jg):Prop:=Q a/\Good w ms/\∀(j:Nat) (x:AV),(ah a)[j]? =some x->∃u,row[j]? =some u/\Is ms x u
theorem I8{α:Type}{ah:α->List AV}{Q:α->Prop}:∀{rows:List<|List Value},(∀row∈rows,∃a ms,xR w ah Q row a ms)->
 ∃(l:List α) (ms:jg),l.length=rows.length/\(∀a∈l,Q a)/\Good w ms/\∀(i:Nat) a row,l[i]? =some a->rows[i]? =some row->∀(j:Nat) (x:AV),(ah a)[j]? =some x->∃u,row[j]? =some u/\Is ms x u
 |[],_=>⟨[],[],rfl,(fun a ha=>by cases ha),Good.nil,(fun i a row h=>by simp at h)⟩
 |row::rows,h=>by
  obtain⟨a,ms,h1,h2,h3⟩:=h row List.mem_cons_self;obtain⟨l,ns,k1,k2,k3,k4⟩:=I8 (rows:=rows) fun r hr=>h r<|List.mem_cons_of_mem _ hr;refine⟨a::l,ms++ns,(by simp[k1]),fun b hb=>?_,h2.app k3,fun i b r hb hr j x hx=>?_⟩
  ·rcases List.mem_cons.1 hb with rfl|hb
   ·exact h1
   ·exact k2 b hb
  ·cases i with
   |zero=>simp at hb hr;subst hb;subst hr;obtain⟨u,e1,e2⟩:=h3 j x hx;exact⟨u,e1,e2.sub fun p hp=>List.mem_append_left _ hp⟩
   |succ i=>simp at hb hr;obtain⟨u,e1,e2⟩:=k4 i b r hb hr j x hx;exact⟨u,e1,e2.sub fun p hp=>List.mem_append_right _ hp⟩
theorem Ah{α:Type}{K:Nat}{ah:α->List AV}{Q:α->Prop}(he:lB K ah)(Bf:0<K){t e:TypeId}{fuel:Nat}{v:Value}{x:DataW H×List MemPlace}(ht:P.underlying t=some (.slice e))(hK:P.cellsOf e=K)(dQ:∀row:List Value,row.length=K->(∃n y,n<fuel/\DataW.trod enc P w base spare held n e row=some y)->∃a ms,xR w ah Q row a ms)(h:DataW.trod enc P w base spare held fuel t [v]=some x):
 ∃(l:List α) (ms:jg),(∀a∈l,Q a)/\Good w ms/\Is ms (aq ah l) v:=by
 rcases Oy Bf ht hK h with⟨a,cap,rfl,hz⟩|⟨b,o,len,cap,c,el,fr,rows,rfl,h2,h3,h4,h5⟩
 ·refine⟨[],[],(fun a ha=>by cases ha),Good.nil,fun σ _=>?_⟩;unfold aq;simp only[VR];exact .inl ⟨bj _,rfl,a,cap,rfl,hz,(fun e=>absurd e (xL _).1),fun e=>absurd e (xL _).2⟩
 ·obtain⟨l,ms,k1,k2,k3,k4⟩:=I8 (w:=w) (ah:=ah) (Q:=Q) (rows:=rows) fun row hr=>by obtain⟨i,hi⟩:=List.mem_iff_getElem?.1 hr;obtain⟨a1,a2,_⟩:=h5 i row hi;exact dQ row a1 a2
  refine⟨l,(b,o,(l.map ah).flatten)::ms,k2,fun p hp=>?_,fun σ hh=>?_⟩
  ·rcases List.mem_cons.1 hp with rfl|hp
   ·refine⟨he.all l,c,el,fr,h3,fun i x hx=>?_⟩;obtain⟨q,j,row,e1,e2,e3⟩:=GV (K:=K) (fun c' UB=>by obtain⟨a,_,rfl⟩:=List.mem_map.1 UB;exact he.len a) hx;rw[List.getElem?_map] at e1;cases ha:l[q]? with
    |none=>rw[ha] at e1;cases e1
    |some a=>
     rw[ha] at e1;injection e1 with e1
     subst e1;have hq:q<rows.length:=by have:=(List.getElem?_eq_some_iff.1 ha).1;omega
     obtain⟨u,g1,g2⟩:=k4 q a rows[q] ha (List.getElem?_eq_getElem hq) j x e2;obtain⟨_,_,g4⟩:=h5 q rows[q]<|List.getElem?_eq_getElem hq;exact⟨u,by rw[e3, ←Nat.add_assoc];exact g4 j u g1,fun σ hh=>g2 σ<|hh.sub fun p hp=>List.mem_cons_of_mem _ hp⟩
   ·obtain⟨h1,c',e',lI,kP,dY⟩:=k3 p hp;exact⟨h1,c',e',lI,kP,fun i x hx=>by obtain⟨v,q1,q2⟩:=dY i x hx;exact⟨v,q1,fun σ hh=>q2 σ<|hh.sub fun p hp=>List.mem_cons_of_mem _ hp⟩⟩
  ·unfold aq;simp only[VR];refine .inr ⟨b,o,cap,.inr ⟨bj _,?_⟩,?_,fun _=>⟨by omega,(xL _).1⟩⟩
   ·have:=hh _ List.mem_cons_self;unfold eL;rw[if_pos<|fI _ _ _];exact this
   ·rw[Nat.add_zero,k1,h4]
end
open Classical in
noncomputable def ky(ms:jg)(ρ:aj):aj:=fun k=>if ρ k=none/\∃p∈ms,k=hn (nm p.2.2) p.1 p.2.1 then some (0,0) else ρ k
theorem Ai{ms:jg}{ρ:aj}:ρ.le<|ky ms ρ:=fun k x e=>by unfold ky;rw[if_neg (fun q=>by rw[e] at q;cases q.1)];exact e
theorem CT{ms:jg}{ρ:aj}{k:Nat}(hk:k<top):ky ms ρ k=ρ k:=by unfold ky;rw[if_neg (fun⟨_,p,_,q⟩=>by have:=fI (nm p.2.2) p.1 p.2.1;omega)]
theorem HV{ms:jg}{ρ:aj}:Has (ky ms ρ) ms:=fun p hp=>by
 unfold ky;by_cases q:ρ (hn (nm p.2.2) p.1 p.2.1)=none
 ·rw[if_pos ⟨q,p,hp,rfl⟩];exact fun h=>by cases h
 ·rw[if_neg fun z=>q z.1];exact q
theorem Start.RY(B:aH){ae:Nat}{h0:Tr U}{ρ:aj}{w:World}{ms:jg}(S:Start ae h0 ρ w)(ht:ae<=top)(hg:Good w ms):Rel ⟨fun k=>w.heap.size<=k,FU,fun _=>True,B.inv,w.heap.size,B.mono⟩ (ky ms ρ) h0 w:=by
 have r:=S.rel ht;refine⟨fun n o hn h=>?_,fun n m o p b N M hn hm h1 h2 ct e1 e2=>?_,fun n m es ex left cur hn h=>?_,r.size,r.lone,fun n b sh e=>?_,ov.no (fun n k v hn hg=>by have:=(S.is n _ hn hg).1;cases this) ⟨Nat.le_refl _,fun n o hn hg _=>by obtain⟨_,b,N,o',h1,h2,_⟩:=S.is n o hn hg;exact⟨b,N,Ai _ _ h1,fU h2⟩⟩⟩
 ·obtain⟨b,N,o',h1,h2,h3,h4⟩:=r.is n o hn h;exact⟨b,N,o',Ai _ _ h1,h2,h3.mono Ai,h4⟩
 ·rw[CT hn] at e1;rw[CT hm] at e2;exact r.one n m o p b N M hn hm h1 h2 ct e1 e2
 ·have:=(S.is n _ hn h).1;cases this
 ·refine⟨.inl trivial,?_⟩;have fN:ρ (hn n b sh)=Option.none:=S.free _<|Nat.le_trans ht<|fI _ _ _;unfold ky at e;split at e
  ·rename_i q;obtain⟨_,p,hp,q⟩:=q;obtain⟨rfl,rfl,rfl⟩:=Dy q;obtain⟨h1,c,el,fr,h2,h3⟩:=hg p hp;refine⟨p.2.2,c,el,fr,El h1,h2,fun m o N hm ho cn=>?_,fun i x hx=>?_⟩
   ·rw[U.iQ (S.is m o hm ho).1] at cn;cases cn
   ·obtain⟨v,q1,q2⟩:=h3 i x hx;exact⟨v,q1,q2 _ HV,CR<|List.all_eq_true.1 h1 x<|List.mem_of_getElem? hx⟩
  ·exact absurd fN e
end Go.Rn
open Go
namespace Go.Rn
section
variable {X:TX} {P:Program} {ae:Nat} {ns:List Nat} {h0:Tr U} {L:bY} {g:Nat} {fn:Func} {body:Code}
theorem NJ{cL:FuncId->Nat}(hw:∀B,DD P B cL)(hP:du P)(pV:gj<=ae)(gG:ae<=top)(ga:∀n o,n<top->h0.get n=some o->n∈ns)(gT:∀n∈ns,n<ae){val:List AV->Option AV}(h:iU X ae P<|eZ ae ns h0 L)(cI:P.funcs[g]? =some fn)(di:fn.body=some body)(eT:(fn.name == "runtime.NumGoroutine")=false)(iG:∀args v,val args=some v->∃n s1,oj P cL n (.fn g) args ⟨h0,ae,0,[],[]⟩= .ok v s1):iU X ae P<|eZ ae ns h0<|(g,.val val)::L:=by
 refine(show iU X ae P (vN (eZ ae ns h0 L) g<|l9 ae ns h0 val) from h.bB (fun U7 _ args=>U5.l9 _ _ _ _ U7 args) fun B hB hT U7 hc hl args x s s1 ρ w vs fi r hg hf hm hv=>?_);unfold l9 at hm;obtain⟨gv,h1⟩:=bP hm;obtain⟨u,s2,h2,h3⟩:=M.aL h1;obtain⟨v,h4,h5⟩:=bd h3;obtain⟨h6,h7⟩:=bP h5;obtain⟨rfl,rfl⟩:=aQ h7;obtain⟨a1,a2,a3⟩:=zC h2;obtain⟨n,s4,q⟩:=iG _ _ h4;have vQ:=Em gG r ga gT (fun n hn=>by obtain⟨_,o,p,h⟩:=a3 n hn;exact⟨o,p,h⟩);have fi:aS (⟨h0,ae,0,[],[]⟩:AS):=⟨Nat.zero_le _,gG⟩;have Fw:eh<|iI ae ρ:=fun g mJ=>by obtain⟨N,e⟩:=hg g mJ;exact⟨N,by unfold iI;rw[if_pos<|Nat.lt_of_lt_of_le mJ pV];exact e⟩
 have bh:=(H8 (B:=xN B ρ w) hP (hw _) n).fn g args x ⟨h0,ae,0,[],[]⟩ s4 (iI ae ρ) w vs fi vQ Fw (fun k k1 _ k2=>by
  have k1:ae<=k:=k1;unfold iI eL;rw[if_neg (by omega),if_neg<|by omega])
  q (AV.DH (fun k y hk e=>by rw[uP gG hk];exact e) gv hv)
 rw[B9 cI di eT] at bh ⊢;have bh:Calls P g vs w _:=bh;show Calls P g vs w _;refine bh.mono fun e w'=>?_;rintro ⟨y,rfl,σ,e1,e2,e3,e4⟩;obtain⟨b1,b2,b3,b4⟩:=Jw (a:=s.nx) gG r e3 e4 e1.le;exact⟨y,rfl,dI ρ σ,by rw[a2];exact b1,AV.vu b2 h6 e2,by rw[a1];exact b3,b4⟩
end
end Go.Rn
namespace Go.Rn
open Go.RowKit
theorem Start.R8{ae:Nat}{h:Tr U}{ρ:aj}{W:World}{g m:Nat}{t:Tr AV}{c:Array Value}{ty:TypeId}{fr:Nat×Nat}(S:Start ae h ρ W)(E5:g<top)(fO:ρ g=some (g,c.size))(hW:W.heap[g]? =some (.cells c ty fr))(hm:m=c.size)(row:∀i,i<m->∃x v,t.get i=some x/\x.bu=true/\c[i]? =some v/\VR ρ x v):Start ae (h.put g<|some<|.ro m t) ρ W:=by
 refine⟨S.g,S.free,fun n o hn ho=>?_⟩;rw[Tr.cV _ _ _ _ E5 hn] at ho;by_cases q:n=g
 ·subst q;rw[if_pos rfl] at ho;injection ho with ho;subst ho
  exact⟨rfl,n,c.size,_,fO,hW,c,ty,fr,rfl,rfl,hm,row⟩
 ·rw[if_neg q] at ho;exact S.is n o hn ho
noncomputable section
end
theorem Start.U6{ae:Nat}{h:Tr U}{ρ:aj}{W:World}{g:Nat}{c:Array Value}{ty:TypeId}{fr:Nat×Nat}(S:Start ae h ρ W)(low:∀k,k<gj->ρ k=H9 W k)(hg:g<gj)(hW:W.heap[g]? =some (.cells c ty fr))(l:List AV)(hl:l.length<=top)(hs:l.length=c.size)(row:∀(i:Nat) x,l[i]? =some x->x.bu=true/\∃v,c[i]? =some v/\VR ρ x v):Start ae (h.put g<|some<|.ro l.length<|Tr.fill l 0 .nil) ρ W:=by
 refine S.R8 (Nat.lt_of_lt_of_le hg (by unfold gj top;decide)) ?_ hW hs fun i hi=>?_
 ·rw[low g hg];unfold H9;rw[if_pos hg,hW]
 ·obtain⟨x,hx⟩:∃x,l[i]? =some x:=⟨l[i],List.getElem?_eq_getElem hi⟩;obtain⟨h1,v,h2,h3⟩:=row i x hx;exact⟨x,v,by rw[O6 _ hl i hi];exact hx,h1,h2,h3⟩
end Go.Rn
