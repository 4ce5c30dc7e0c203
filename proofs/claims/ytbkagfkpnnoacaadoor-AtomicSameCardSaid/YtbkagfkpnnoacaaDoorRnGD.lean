import Derived.Test.YtbkagfkpnnoacaaDoorRnGC
import Derived.RangeFuncIn
import Derived.RangeFuncLeaves
import Derived.Maps.RangeRun
set_option maxRecDepth 100000
set_option maxHeartbeats 8000000
set_option linter.unusedSimpArgs false
set_option linter.unusedVariables false
namespace Go.Rn
open Go.RowKit
variable {ρ:Ren} {w:World} {t:Tr AV} {listed:Array Bool} {j:Nat} {a:Act}
section
variable {P:Program} {B:aJ} {YG:aK} {ops:Array Oper} {nt:Nat} {H:Nat->Tr ae} {N:Nat->Nat} {T:Nat->Tr AV} {Rd Wr:Nat->Nat->Prop}
def jU(listed:Array Bool)(i:Nat):Prop:=listed.getD i false=true
def Cut(n:Nat)(W:Nat->Prop)(D:Nat->Prop)(c:Nat):Prop:=c<=n/\∀i,i<n->W i->(D i↔i<c)
theorem R3{α:Type}{f:Nat->α}{n:Nat}{W:Nat->Prop}(hk:∀k,k<n->¬W k->f (k+1)=f k):∀(m c:Nat),c+m<=n->(∀i,c<=i->i<c+m->¬W i)->f (c+m)=f c
 |0,_,_,_=>rfl
 |m+1,c,hn,hw=>by have h1:=hk (c+m) aj<|hw (c+m) aj aj;rw[show c+(m+1)=c+m+1 from rfl,h1];exact R3 hk m c aj fun i h1 h2=>hw i h1 aj
theorem Ia{α:Type}{f:Nat->α}{n:Nat}{W D:Nat->Prop}(hk:∀k,k<n->¬W k->f (k+1)=f k){c c':Nat}(h:Cut n W D c)(h':Cut n W D c'):f c=f c':=by
 have key:∀{a b:Nat},Cut n W D a->Cut n W D b->a<=b->f b=f a:=by intro a b ha hb GL;obtain⟨m,rfl⟩:∃m,b=a+m:=⟨b - a,by omega⟩;refine R3 hk m a hb.1 fun i h1 h2 hw=>?_;have iu:i<n:=Nat.lt_of_lt_of_le h2 hb.1;have:=(ha.2 i iu hw).1<|(hb.2 i iu hw).2 h2;omega
 rcases Nat.le_total c c' with q|q
 ·exact(key h h' q).symm
 ·exact key h' h q
theorem yQ(x:Text P YG ops nt H N T Rd Wr):∀{i j:Nat},i<=j->j<=ops.size->N i<=N j:=by
 intro i j lD hj;obtain⟨m,rfl⟩:∃m,j=i+m:=⟨j - i,by omega⟩;clear lD;induction m with
 |zero=>exact Nat.le_refl _
 |succ m ih=>exact Nat.le_trans (ih aj)<|x.up (i+m) aj
structure Inv (B:aJ) (ops:Array Oper) (nt:Nat) (H:Nat->Tr ae) (N:Nat->Nat) (T:Nat->Tr AV) (Wr:Nat->Nat->Prop) (vj:Ren) (J4:World) (J5:Act) (listed:Array Bool) (a:Act) (w:World) (h:Tr ae) (t:Tr AV) (ρ:Ren):Prop where
 rel:Rel B ρ h w
 tr:TR ρ nt t a.tmps
 le:vj.le ρ
 new:∀m,m<top->ρ m≠vj m->∃i,i<ops.size/\jU listed i/\N i<=m/\m<N (i+1)
 heap:∀m,m<top->∃c,Cut ops.size (fun i=>Wr i m) (jU listed) c/\h.get m=(H c).get m
 Dc:∀d,∃c,Cut ops.size (fun i=>∃o,ops[i]? =some o/\o.dst=some d) (jU listed) c/\t.get d=(T c).get d
 below:cw B J4 w
 defers:a.defers=J5.defers
 closed:∀(j:Nat) (o:Oper) (e:Edge),ops[j]? =some o->jU listed j->e∈o.after->Region.binds .any e=true->jU listed e.on
theorem EZ(hj:j<listed.size)(i:Nat):jU (listed.setIfInBounds j true) i↔i=j\/jU listed i:=by
 unfold jU;simp only[Array.getD_eq_getD_getElem?];by_cases e:i=j
 ·subst e;rw[Array.getElem?_setIfInBounds_self_of_lt hj];simp
 ·rw[Array.getElem?_setIfInBounds_ne<|Ne.symm e];simp[e]
theorem MV(zM:JA ops)(x:Text P YG ops nt H N T Rd Wr)(hc:fQ P B YG)(hl:∀t a,YF<|YG t a)(iV:nt<=top){vj:Ren}(hg:gC vj)(lP:dA (N 0) (N ops.size) vj){J4:World}{J5:Act}{o:Oper}(hs:listed.size=ops.size){h:Tr ae}(inv:Inv B ops nt H N T Wr vj J4 J5 listed a w h t ρ)(ho:ops[j]? =some o)(hj:listed.getD j true=false)(Vk:∀e∈o.after,Region.binds .any e=true->listed.getD e.on false=true)(b:Frame)(k:List Item)(cs:List Frame)(rest:List Nat):
 ∃a' w' h' t' gF,Inv B ops nt H N T Wr vj J4 J5 (listed.setIfInBounds j true) a' w' h' t' gF/\Steps P (lone (b.atR a<|.inRegion ops (j::rest)::k) cs w) (lone (b.atR a'<|.inRegion ops rest::k) cs w'):=by
 have zN:j<ops.size:=(Array.getElem?_eq_some_iff.1 ho).1;have zO:¬jU listed j:=by unfold jU;rw[Array.getD_eq_getD_getElem?,Array.getElem?_eq_getElem aj] at hj ⊢;simp at hj ⊢;exact hj
 have WB:=YX zM.VQ (jU listed) inv.closed;have ordered:∀i,i≠j->loose (Region.before ops) i j=false->(jU listed i↔i<j):=by
  intro i lD eW;unfold loose at eW;simp only[Bool.not_eq_false',Bool.or_eq_true] at eW;rcases eW with q|q
  ·obtain⟨h1,h2,_⟩:=WB i i j (Nat.le_refl _) q;exact⟨fun hd=>absurd (h2 hd) zO,fun e=>by omega⟩
  ·obtain⟨h1,_,h3⟩:=WB j j i (Nat.le_refl _) q;exact⟨fun _=>h1,fun _=>h3 fun o' e kE hm hb=>by rw[ho] at kE;cases kE;exact Vk e hm hb⟩
 have aeE:∀i,loose (Region.before ops) i j=loose (Region.before ops) j i:=by intro i;unfold loose;rw[Bool.or_comm]
 have cutAt:∀(W:Nat->Prop),(∀i,i<ops.size->W i->i≠j->loose (Region.before ops) i j=false)->Cut ops.size W (jU listed) j:=by
  intro W hW;refine⟨Nat.le_of_lt zN,fun i hi hw=>?_⟩;by_cases e:i=j
  ·subst e;exact⟨fun hd=>absurd hd zO,fun q=>absurd q<|Nat.lt_irrefl _⟩
  ·exact ordered i e<|hW i hi hw e
 have Ul:∀(W:Nat->Prop),(∀i,i<ops.size->W i->i≠j->loose (Region.before ops) i j=false)->Cut ops.size W (jU<|listed.setIfInBounds j true) (j+1):=by
  intro W hW;refine⟨zN,fun i hi hw=>?_⟩;rw[EZ aj];by_cases e:i=j
  ·subst e;exact⟨fun _=>Nat.lt_succ_self _,fun _=>.inl rfl⟩
  ·have:=ordered i e<|hW i hi hw e;constructor
   ·rintro (q|q)
    ·exact absurd q e
    ·have:=this.1 q;omega
   ·intro q;exact .inr<|this.2 aj
 have Um:∀(W:Nat->Prop) (c:Nat),¬W j->Cut ops.size W (jU listed) c->Cut ops.size W (jU<|listed.setIfInBounds j true) c:=by
  intro W c hW WC;refine⟨WC.1,fun i hi hw=>?_⟩;rw[EZ aj];have lD:i≠j:=by intro e;subst e;exact hW hw
  rw[←WC.2 i hi hw];exact⟨fun q=>q.resolve_left lD,.inr⟩
 have Un:∀i m,i<ops.size->i≠j->Wr i m->Rd j m->loose (Region.before ops) i j=false:=by
  intro i m hi lD hw hr;cases q:loose (Region.before ops) i j with
  |false=>rfl
  |true=>exact absurd hr<|x.apart i j m hi zN lD q hw
 have alN:∀m,m<N j->m<top:=fun m hm=>Nat.lt_of_lt_of_le hm<|x.top j aj;have af3:∀m,m<top->Rd j m->h.get m=(H j).get m:=by intro m hm hr;obtain⟨c,jG,vX⟩:=inv.heap m hm;rw[vX];exact Ia (f:=fun c=>(H c).get m) (fun k hk hw=>x.mK k m hk hw hm) jG<|cutAt _ fun i hi hw lD=>Un i m hi lD hw hr
 have af4:∀d∈o.looksAt ops,(T j).get d=t.get d:=by
  intro d hd;obtain⟨c,jG,vX⟩:=inv.Dc d;rw[vX];refine Ia (f:=fun c=>(T c).get d) (fun k hk hw=>?_) (cutAt _ ?_) jG
  ·have eN:ops[k]? =some ops[k]:=Array.getElem?_eq_getElem hk;exact x.slot k _ d eN fun e=>hw ⟨_,eN,e⟩
  ·rintro i hi ⟨y,hy,GR⟩ lD;exact zM.Dc i j y o d lD hy ho GR<|.inl hd
 obtain⟨t1,c1,c2,c3,c4⟩:=x.again j o ho h af3;obtain⟨v,v1,v2⟩:=R2 af4 c1;obtain⟨u1,Qg⟩:∃u1,je nt t o.dst v=some u1:=by
  rcases Cx v1 with⟨e,_⟩|⟨d,e,hd,_⟩
  ·rw[e];exact⟨t,rfl⟩
  ·rw[e];refine⟨t.put d<|some v,?_⟩;show @Bool.rec (fun _=>Option<|Tr AV) none (some<|t.put d<|some v) (Nat.blt d nt)=_;rw[yI,if_pos hd]
 have qu:=v2 u1 Qg;have hNj:N j<=N (j+1):=x.up j zN;have bC:dA (N j) (N<|j+1) ρ:=by
  intro m h1 h2 j9;have e0:vj m=none:=lP m (Nat.le_trans (yQ x (Nat.zero_le j) aj) h1) (Nat.lt_of_lt_of_le h2<|yQ x zN<|Nat.le_refl _) j9;by_cases e:ρ m=vj m
  ·rw[e];exact e0
  ·exfalso;obtain⟨i,hi,Qh,p1,p2⟩:=inv.new m j9 e;have lD:i≠j:=by intro q;subst q;exact zO Qh
   rcases Nat.lt_or_ge i j with q|q
   ·have:=yQ x (show i+1<=j from q) aj;omega
   ·have:=yQ x (show j+1<=i from by omega) aj;omega
 have ax:At B ρ ⟨h,N j,N j,[],[]⟩ nt t w a:=⟨inv.tr,inv.rel,hg.mono inv.le,iV,⟨Nat.le_refl _,x.top j aj⟩⟩;obtain⟨σ,a',w',g1,g2,g3,g4,g5⟩:=Tp hc hl ho ax (by rw[c2];exact bC) qu b k cs rest;rw[c2] at g1;refine⟨a',w',t1.h,u1,σ,⟨g2.rel,g2.tr,Ren.le_trans inv.le g1.le,?_,?_,?_,inv.below.trans g4,g3.trans inv.defers,?_⟩,g5⟩
 ·intro m j9 hm;by_cases e:ρ m=vj m
  ·by_cases q:N j<=m/\m<N (j+1)
   ·exact⟨j,zN,(EZ aj j).2<|.inl rfl,q.1,q.2⟩
   ·exact absurd ((g1.out m j9 q).trans e) hm
  ·obtain⟨i,hi,Qh,p⟩:=inv.new m j9 e;exact⟨i,hi,(EZ aj i).2<|.inr Qh,p⟩
 ·intro m hm;by_cases q:Wr j m
  ·refine⟨j+1,Ul _ fun i hi hw lD=>?_,c3 m q⟩;obtain⟨w1,w2⟩:=x.wrote j m zN q;by_cases e:m<N j
   ·exact Un i m hi lD hw<|w2 e
   ·obtain⟨y1,y2⟩:=x.wrote i m hi hw;have him:m<N i:=by
     rcases Nat.lt_or_ge i j with r|r
     ·have:=yQ x (show i+1<=j from r) aj;omega
     ·have:=yQ x (show j+1<=i from by omega) aj;omega
    cases yc:loose (Region.before ops) i j with
    |false=>rfl
    |true=>rw[aeE] at yc;exact absurd (y2 him)<|x.apart j i m zN hi (Ne.symm lD) yc q
  ·obtain⟨c,jG,vX⟩:=inv.heap m hm;exact⟨c,Um _ c q jG,(c4 m q hm).trans vX⟩
 ·intro d;by_cases q:o.dst=some d
  ·refine⟨j+1,Ul _ fun i hi hw lD=>?_,?_⟩
   ·obtain⟨y,hy,GR⟩:=hw;exact zM.Dc i j y o d lD hy ho GR<|.inr q
   ·rcases Cx v1 with⟨e,_⟩|⟨d1,e,hd,e3⟩
    ·rw[e] at q;cases q
    ·rw[q] at e;cases e;rcases Cx Qg with⟨e,_⟩|⟨d2,e,D5,e4⟩
     ·rw[e] at q;cases q
     ·rw[q] at e;cases e;rw[e3,e4,Tr.lL _ _ _ _<|Nat.lt_of_lt_of_le hd iV,Tr.lL _ _ _ _<|Nat.lt_of_lt_of_le hd iV,if_pos rfl,if_pos rfl]
  ·obtain⟨c,jG,vX⟩:=inv.Dc d;refine⟨c,Um _ c (fun hw=>?_) jG,?_⟩
   ·obtain⟨y,hy,GR⟩:=hw;rw[ho] at hy;cases hy;exact q GR
   ·rw[←vX];rcases Cx Qg with⟨_,e⟩|⟨d2,e,D5,e4⟩
    ·rw[e]
    ·rw[e4,Tr.lL _ _ _ _<|Nat.lt_of_lt_of_le D5 iV,if_neg (by intro r;subst r;exact q e)]
 ·intro j' o' e kE hd hm hb;rw[EZ aj] at hd ⊢;rcases hd with rfl|hd
  ·rw[ho] at kE;cases kE;exact .inr<|Vk e hm hb
  ·exact .inr<|inv.closed j' o' e kE hd hm hb
theorem Ml(n i:Nat):¬jU (Array.replicate n false) i:=by
 unfold jU;rw[Array.getD_eq_getD_getElem?];by_cases h:i<n
 ·simp[h]
 ·simp[h]
theorem Zq(bH:P.follows .mixedOrders=true)(zM:JA ops)(hc:fQ P B YG)(hl:∀t a,YF<|YG t a){id:Nat}{t1:Tr AV}{s s1:AS}(ax:At B ρ s nt t w a)(hf:dA s.nx s1.nx ρ)(h:p7 P YG nt ops t s= .ok t1 s1)(b:Frame)(k:List Item)(cs:List Frame):
 DC P B ρ s s1 nt t1 w a (lone (b.atR a<|.code (.region id ops true)::k) cs w) (fun a' w'=>lone (b.atR a' k) cs w'):=by
 obtain⟨⟨t',ms⟩,s',h1,h2⟩:=M.aN (show((mW P YG nt ops ops.toList 0 t).bind fun x=>aG (qf (Region.before ops) x.2 x.2) <| M.pure x.1) s= .ok t1 s1 from h);obtain⟨h3,h4⟩:=cV h2;obtain⟨rfl,rfl⟩:=bA h4;obtain⟨f',H,N,T,Rd,Wr,a1,a2,a3,a4,a5,a6,x⟩:=acS hl ax.nt ax.cm h1 h3;have lP:dA (N 0) (N ops.size) ρ:=by rw[a2,a5];exact hf
 let w1:World:={w with drawn:=w.drawn+1};have ahL:Rel B ρ s.h w1:=ax.rel.Bm<|gN.drew w;have ahM:Inv B ops nt H N T Wr ρ w a (Array.replicate ops.size false) a w1 s.h t ρ:=by refine⟨ahL,ax.tr,Ren.le_refl ρ,fun m _ hm=>absurd rfl hm,fun m _=>⟨0,⟨Nat.zero_le _,fun i _ _=>⟨fun q=>absurd q<|Ml _ _,fun q=>absurd q<|Nat.not_lt_zero _⟩⟩,by rw[a1]⟩,fun d=>⟨0,⟨Nat.zero_le _,fun i _ _=>⟨fun q=>absurd q<|Ml _ _,fun q=>absurd q<|Nat.not_lt_zero _⟩⟩,by rw[a3]⟩,(gN.drew w).below ax.rel.size,rfl,fun j o e _ q=>absurd q<|Ml _ _⟩
 obtain⟨l',a',w',z1,z2,⟨h',t',gF,inv⟩,z3⟩:=aaw (P:=P) zM.VQ b k cs (fun listed a2 w2=>∃h' t' gF,Inv B ops nt H N T Wr ρ w a listed a2 w2 h' t' gF)
  (fun listed a2 w2 i o rest q1 ⟨h',t',gF,inv⟩ q3 q4 q5=>by obtain⟨a3,w3,h3,t3,ρ3,i3,st⟩:=MV zM x hc hl ax.nt ax.g lP q1 inv q3 q4 q5 b k cs rest;exact⟨a3,w3,⟨h3,t3,ρ3,i3⟩,st⟩)
  ops.size (w.tape w.drawn<|.order b.fn id) (Array.replicate ops.size false) a w1 jF (abF _) ⟨s.h,t,ρ,ahM⟩
 have all:∀(W:Nat->Prop),Cut ops.size W (jU l') ops.size:=fun W=>⟨Nat.le_refl _,fun i hi _=>⟨fun _=>hi,fun _=>z2 i hi⟩⟩;have ahN:∀m,m<top->s1.h.get m=h'.get m:=by intro m hm;obtain⟨c,c1,c2⟩:=inv.heap m hm;rw[c2, ←a4];exact Ia (f:=fun c=>(H c).get m) (fun k hk hw=>x.mK k m hk hw hm) (all _) c1
 have ahO:∀d,t'.get d=(T ops.size).get d:=by intro d;obtain⟨c,c1,c2⟩:=inv.Dc d;rw[c2];refine Ia (f:=fun c=>(T c).get d) (fun k hk hw=>?_) c1<|all _;have eN:ops[k]? =some ops[k]:=Array.getElem?_eq_getElem hk;exact x.slot k _ d eN fun e=>hw ⟨_,eN,e⟩
 refine⟨gF,a',w',⟨inv.le,fun m j9 hm=>?_⟩,⟨?_,inv.rel.congr ahN,ax.g.mono inv.le,ax.nt,f'⟩,inv.defers,inv.below,?_⟩
 ·by_cases e:gF m=ρ m
  ·exact e
  ·exfalso;obtain⟨i,hi,_,p1,p2⟩:=inv.new m j9 e;have q1:=yQ x (Nat.zero_le i) aj;have q2:=yQ x (show i+1<=ops.size from hi)<|Nat.le_refl _;exact hm ⟨by omega,by omega⟩
 ·rw[←a6];exact⟨inv.tr.1,fun i x hx=>inv.tr.2 i x (by rw[ahO i];exact hx)⟩
 ·refine .head stepR_region_draw ?_;simp only[Region.schedule,bH,Bool.true_or,if_true];exact z3
end
end Go.Rn
namespace Go.Rn
open Go.RowKit
variable {l bl N:Nat} {σ:Ren} {r:Loop}
def Fx(ρ:Ren):Option Nat->Option Nat->Prop
 |none,none=>True
 |some l,some b=>∃N,ρ l=some (b,N)
 |_,_=>False
theorem Fx.mono{ρ:Ren}(h:ρ.le σ):∀{x y:Option Nat},Fx ρ x y->Fx σ x y
 |none,none,k=>k
 |some _,some _,⟨N,e⟩=>⟨N,h _ _ e⟩
 |none,some _,k=>k
 |some _,none,k=>k
def vD(ρ:Ren):List Nat->List Deferred->Prop
 |[],l=>l=[]
 |d::ds,l=>∃b N r,l={target:=.collected b,args:= #[]}::r/\ρ d=some (b,N)/\vD ρ ds r
theorem vD.mono{ρ:Ren}(h:ρ.le σ):∀{x:List Nat} {y:List Deferred},vD ρ x y->vD σ x y
 |[],_,k=>k
 |_::_,_,⟨b,N,r,e,a,d⟩=>⟨b,N,r,e,h _ _ a,d.mono h⟩
def bq.fr:bq->AF
 | .go fr=>fr
 | .leave fr _=>fr
def Leaves(j:Option Code)(todo:List Item):Prop:=
 match j with
 |none=>todo=[]
 |some .ret=>∃k,todo= .code .ret::k
 |some (.exit id)=>∃k,todo= .code (.exit id)::k/\exitTo id k=none
 |some (.goto l)=>∃k,todo= .code (.goto l)::k/\gotoIn l k=none
 |_=>False
def bq.ok:bq->Prop
 | .go _=>True
 | .leave fr j=>Leaves j fr.todo
theorem Leaves.code{j:Option Code}{todo:List Item}(h:Leaves j todo):∀c,j=some c->iz c:=by intro c e;subst e;cases c<;>first|trivial|cases h
structure Fr (ρ:Ren) (af:AF) (b:Frame) (a:Act):Prop where
 fn:b.fn=af.fn
 kind:b.kind= .normal
 round:Fx ρ af.round b.roundOf
 defs:vD ρ af.defers a.defers
 ok:jy af.todo
def lR(P:Program)(B:aJ)(ρ:Ren)(s s1:AS)(w:World)(af:AF)(b:Frame)(cs:List Frame)(m:Machine)(x:bq):Prop:=∃σ a' w',Ext s.nx s1.nx ρ σ/\At B σ s1 af.nt x.fr.tmps w' a'/\vD σ x.fr.defers a'.defers/\cw B w w'/\(x.fr.fn=af.fn/\x.fr.nt=af.nt/\x.fr.round=af.round)/\jy x.fr.todo/\x.ok/\Steps P m (lone (b.atR a' x.fr.todo) cs w')
section
variable {P:Program} {B:aJ} {ρ:Ren} {w:World} {s s1:AS} {YG:aK} {b:Frame} {a:Act} {cs:List Frame}
theorem Ck(hb:w.heap[l]? =some (.loop r)):(Instr.getLoop l).run P w= .ok r w:=by simp[Instr.getLoop,getObj,Sem.run,hb]
theorem Lv{o:Obj}(hb:w.heap[l]? =some (.loop r)):(setObj l o).run P w= .ok () {w with heap:=w.heap.setIfInBounds l o}:=by simp[setObj,Sem.run,hb]
theorem Cn{o:ae}(h:getLoop l s= .ok o s1):bt l s= .ok o s1/\∃st bL fn t nt ps aa bb d,o= .loop st bL fn t nt ps aa bb d:=by
 unfold getLoop at h;obtain⟨o',s2,h1,h2⟩:=M.aN h;split at h2
 ·obtain⟨rfl,rfl⟩:=bA h2;exact⟨h1,_,_,_,_,_,_,_,_,_,rfl⟩
 ·cases h2
theorem MW{st aV:LoopState}{bL FQ:Option Code}{fn nt d:Nat}{t:Tr AV}{ps:List Tmp}{aa bb:Code}{u:Unit}{s2:AS}(fi:bB s)(r:Rel B ρ s.h w)(hg:bt l s= .ok (.loop st bL fn t nt ps aa bb d) s2)(hl:ρ l=some (bl,N))(eN:∀c,FQ=some c->iz c)(h:bJ l (some<|.loop aV FQ fn t nt ps aa bb d) s2= .ok u s1):
 s1.nx=s.nx/\∃q:Loop,w.heap[bl]? =some (.loop q)/\q.state=st/\q.pending=bL/\q.fn=fn/\TR ρ nt t q.tmps/\q.params=ps.toArray/\q.assign=aa/\q.body=bb/\nt<=top/\Fu bL aa bb/\Rel B ρ s1.h {w with heap:=w.heap.setIfInBounds bl<|.loop {q with state:=aV,pending:=FQ}}/\cw B w {w with heap:=w.heap.setIfInBounds bl<|.loop {q with state:=aV,pending:=FQ}}:=by
 obtain⟨hx,iR,hh,cr⟩:=fU hg;have ht:l<top:=Nat.lt_of_lt_of_le hx fi.nx;obtain⟨o',hb,hO,hB⟩:=r.block ht iR hl;obtain⟨ta,db,M,rfl,yf,iV,hd,eW⟩:=hO;obtain⟨_,_,_,e1,e2⟩:=jx h;obtain⟨g3,g4⟩:=Cm (o':=.loop {state:=aV,pending:=FQ,fn:=fn,tmps:=ta,params:=ps.toArray,assign:=aa,body:=bb,defers:=db}) hb;refine⟨by rw[e2,cr],_,hb,rfl,rfl,rfl,yf,rfl,rfl,rfl,iV,eW,?_,g3.below<|hB rfl⟩;rw[e1,hh];exact r.put ht iR rfl rfl hl rfl g3 g4 ⟨ta,db,M,rfl,yf,iV,hd,eN,eW.assign,eW.body⟩
theorem Rx{p:Option Code}(fi:bB s)(r:Rel B ρ s.h w)(hl:ρ l=some (bl,N))(h:lM l s= .ok p s1):
 s1.nx=s.nx/\(∀c,p=some c->iz c)/\∃w',(Instr.endLoop bl).run P w= .ok p w'/\Rel B ρ s1.h w'/\cw B w w':=by
 unfold lM at h;obtain⟨o,s2,h1,h2⟩:=M.aN h;obtain⟨h3,st,bL,fn,t,nt,ps,aa,bb,d,rfl⟩:=Cn h1;obtain⟨h4,h5⟩:=cV h2;obtain⟨u,s3,h6,h7⟩:=M.aN h5;obtain⟨rfl,rfl⟩:=bA h7;have iR:=(fU h3);have eN:∀c,p=some c->iz c:=by obtain⟨o',hb,hO,_⟩:=r.block (Nat.lt_of_lt_of_le iR.1 fi.nx) iR.2.1 hl;obtain⟨_,_,_,_,_,_,_,eW⟩:=hO;exact eW.bL
 obtain⟨e1,q,e2,e3,e4,_,_,_,_,_,_,_,e5,e6⟩:=MW fi r h3 hl eN h6;refine⟨e1,eN,_,?_,e5,e6⟩;have cf:(q.state == LoopState.busy)=false:=by rw[e3];cases st<;>first|rfl|cases h4
 simp only[Instr.endLoop,Sem.run_bind,Ck e2,Result.andThen_ok,cf,Bool.false_eq_true,if_false,Lv e2,Sem.run_pure,e4]
theorem Rf{g:Operand}{ps:Array Tmp}{assign body:Code}{k:List Item}{mark:List Deferred}{J6:World}{R:Value->World->Prop}(he:(Instr.enterLoop b.fn a.tmps ps assign body b.roundOf).run P w= .ok (l,mark) J6)(h:jg P ((do let d ←Deferred.ofValue (a.eval g) #[.func (.yield l) #[] #[]];invoke d.target d.args:Sem Next).run P J6) R):
 ∃v w',R v w'/\Steps P (lone (b.atR a<|.code (.rangeFunc g ps assign body)::k) cs w) (lone (b.atR {a with defers:=mark++a.defers}<|.endRangeFunc l::k) cs w'):=by
 have D6:=Frame.eval_atR b {a with defers:=mark++a.defers}<|.inRangeFunc l::k;simp only[Frame.atR] at D6;have lA:(do let d ←resolve ({tmps:=a.tmps,defers:=mark++a.defers}:Act).eval {callee:=.value g,args:= #[.const<|.func (.yield l) #[] #[]],argTypes:= #[]} 0;invoke d.target d.args:Sem Next)=
  (do let d ←Deferred.ofValue (a.eval g) #[.func (.yield l) #[] #[]];invoke d.target d.args:Sem Next):=by
  have e1:({tmps:=a.tmps,defers:=mark++a.defers}:Act).eval g=a.eval g:=by cases g<;>rfl
  have e2:(#[Operand.const<|Value.func (Fn.yield l) #[] #[]]:Array Operand).map ({tmps:=a.tmps,defers:=mark++a.defers}:Act).eval= #[Value.func (Fn.yield l) #[] #[]]:=by simp[Act.eval]
  simp only[resolve,e1,e2]
 generalize hr:(do let d ←Deferred.ofValue (a.eval g) #[.func (.yield l) #[] #[]];invoke d.target d.args:Sem Next).run P J6=res at h;rw[←lA] at hr;have JE:stepG P true {frame:=b.atR a<|.code (.rangeFunc g ps assign body)::k,callers:=cs,status:=.running,dying:=none} w=
  GStep.after (seen P b.fn ((Instr.enterLoop b.fn a.tmps ps assign body b.roundOf).runT P w #[]).2) (stepG.apply P true (b.atR {a with defers:=mark++a.defers}<|.inRangeFunc l::k) cs none (do let d ←resolve ({tmps:=a.tmps,defers:=mark++a.defers}:Act).eval {callee:=.value g,args:= #[.const<|.func (.yield l) #[] #[]],argTypes:= #[]} 0;invoke d.target d.args) J6):=by
  simp only[stepG,stepG.exec,Frame.atR,Sem.runT_eq,he,D6]
 unfold jg at h;split at h
 ·rename_i v w';refine⟨v,w',h,.one<|step_lone_go ?_⟩;rw[JE,GStep.bare_after, ←finish_atR_inRangeFunc l v];simp[stepG.apply,hr]
 ·rename_i w';refine⟨undef,w',h,.one<|step_lone_go ?_⟩;rw[JE,GStep.bare_after, ←finish_atR_inRangeFunc l undef];simp[stepG.apply,hr]
 ·rename_i f args w';obtain⟨e,ni,fr,⟨v,rfl,hR⟩,AY,cj,Oa⟩:=h<|b.atR {a with defers:=mark++a.defers} (.inRangeFunc l::k)::cs;have AZ:step P (lone (b.atR a<|.code (.rangeFunc g ps assign body)::k) cs w)= .next (lone (Frame.enter P f args .normal) (b.atR {a with defers:=mark++a.defers} (.inRangeFunc l::k)::cs) w'):=step_lone_go (by rw[JE,GStep.bare_after];simp[stepG.apply,hr,Frame.atR])
  refine⟨v,ni,hR,.head AZ<|Steps.trans AY<|.one ?_⟩;rw[←finish_atR_inRangeFunc l v];exact step_leave_returned Oa
 ·rename_i l' f tmps acT af5 w';obtain⟨v,ni,hR,AY⟩:=h (b.atR {a with defers:=mark++a.defers}<|.inRangeFunc l::k) cs;have AZ:step P (lone (b.atR a<|.code (.rangeFunc g ps assign body)::k) cs w)= .next (lone (Frame.round l' f tmps acT af5 .normal) (b.atR {a with defers:=mark++a.defers} (.inRangeFunc l::k)::cs) w'):=step_lone_go (by rw[JE,GStep.bare_after];simp[stepG.apply,hr,Frame.atR])
  refine⟨v,ni,hR,.head AZ ?_⟩;rw[←finish_atR_inRangeFunc l v];exact AY
 ·cases h
end
end Go.Rn
namespace Go.Rn
open Go.RowKit
variable {t:Tr AV} {ps:Array Tmp} {k:List Item} {body assign:Code} {af:AF} {x:bq} {nt fn:Nat}
section
variable {P:Program} {B:aJ} {ρ:Ren} {w:World} {s s1:AS} {YG:aK} {b:Frame} {a:Act} {cs:List Frame}
theorem Cr(bC:Fr ρ af b a)(ax:At B ρ s af.nt af.tmps w a)(h1:x.fr.tmps=af.tmps)(h2:x.fr.defers=af.defers)(h3:x.fr.fn=af.fn/\x.fr.nt=af.nt/\x.fr.round=af.round)(h4:jy x.fr.todo)(h5:x.ok)(h6:Steps P (lone (b.atR a af.todo) cs w)<|lone (b.atR a x.fr.todo) cs w):lR P B ρ s s w af b cs (lone (b.atR a af.todo) cs w) x:=⟨ρ,a,w,Ext.refl _ _ _,by rw[h1];exact ax,by rw[h2];exact bC.defs,cw.refl _ _,h3,h4,h5,h6⟩
theorem SI{fr:AF}(bC:Fr ρ af b a)(hx:fr={af with tmps:=t,todo:=k})(hk:jy k)(h:DC P B ρ s s1 af.nt t w a (lone (b.atR a af.todo) cs w) fun a' w'=>lone (b.atR a' k) cs w'):lR P B ρ s s1 w af b cs (lone (b.atR a af.todo) cs w)<|.go fr:=by subst hx;obtain⟨σ,a',w',e1,e2,e3,e4,e5⟩:=h;exact⟨σ,a',w',e1,e2,by rw[e3];exact bC.defs.mono e1.le,e4,⟨rfl,rfl,rfl⟩,hk,trivial,e5⟩
theorem acU(ax:At B ρ s nt t w a)(h1:ρ s.nx=none)(h2:ρ (s.nx+1)=none)(l1:s.nx<top)(l2:s.nx+1<top)(eW:Fu none assign body):
 ∃σ,Ext s.nx (s.nx+2) ρ σ/\σ s.nx=some (w.heap.size,0)/\σ (s.nx+1)=some (w.heap.size+1,0)/\
  (Instr.enterLoop fn a.tmps ps assign body none).run P w= .ok (w.heap.size+1,[{target:=.collected w.heap.size,args:= #[]}]) {w with heap:=(w.heap.push<|.deferred<|some []).push<|.loop {state:=.ready,pending:=none,fn,tmps:=a.tmps,params:=ps,assign,body,defers:=w.heap.size}}/\
  Rel B σ ((s.h.put s.nx<|some .defs).put (s.nx+1)<|some<|.loop .ready none fn t nt ps.toList assign body s.nx) {w with heap:=(w.heap.push<|.deferred<|some []).push<|.loop {state:=.ready,pending:=none,fn,tmps:=a.tmps,params:=ps,assign,body,defers:=w.heap.size}}/\
  cw B w {w with heap:=(w.heap.push<|.deferred<|some []).push<|.loop {state:=.ready,pending:=none,fn,tmps:=a.tmps,params:=ps,assign,body,defers:=w.heap.size}}:=by
 have r1:=ax.rel.new (n:=s.nx) (o:=.defs) (o':=.deferred<|some []) (N:=0) l1 h1 rfl rfl;have ua:eM ρ s.nx (w.heap.size,0) (s.nx+1)=none:=by rw[gI ρ _ aj];exact h2
 have Gf:ρ.le<|eM ρ s.nx (w.heap.size,0):=oi h1;have J7:(eM ρ s.nx (w.heap.size,0)).le<|eM (eM ρ s.nx (w.heap.size,0)) (s.nx+1) (w.heap.size+1,0):=oi ua;have kr:({w with heap:=w.heap.push<|.deferred<|some []}:World).heap.size=w.heap.size+1:=by simp
 have r2:=r1.new (n:=s.nx+1) (o:=.loop .ready none fn t nt ps.toList assign body s.nx) (o':=.loop {state:=.ready,pending:=none,fn,tmps:=a.tmps,params:=ps,assign,body,defers:=w.heap.size}) (N:=0) l2 ua rfl (by rw[kr];exact⟨a.tmps,w.heap.size,0,by simp,(ax.tr.mono Gf).mono J7,ax.nt,J7 _ _<|iP _ _ _,eW⟩);rw[kr] at r2;refine⟨_,⟨Ren.le_trans Gf J7,fun k _ hk=>?_⟩,J7 _ _<|iP _ _ _,iP _ _ _,?_,r2,?_⟩
 ·rw[gI _ _ aj,gI _ _ aj]
 ·simp only[Instr.enterLoop,Sem.run_bind,newObj,Sem.run,Result.andThen_ok,Sem.run_pure];simp
 ·exact((gN.alloc w _).trans<|gN.alloc _ _).below ax.rel.size
theorem acV{l0 bl N:Nat}{st:LoopState}{bL:Option Code}{f0 D7 d0:Nat}{t0:Tr AV}{D8:List Tmp}{a0 b0:Code}{s2:AS}(ax:At B ρ s nt t w a)(h1:ρ s.nx=none)(l1:s.nx<top)(eW:Fu none assign body)(hg:bt l0 s= .ok (.loop st bL f0 t0 D7 D8 a0 b0 d0) s2)(hl:ρ l0=some (bl,N)):
 ∃σ w',Ext s.nx (s.nx+1) ρ σ/\(∃bb M,σ s.nx=some (bb,M)/\(Instr.enterLoop fn a.tmps ps assign body<|some bl).run P w= .ok (bb,[]) w')/\Rel B σ (s.h.put s.nx<|some<|.loop .ready none fn t nt ps.toList assign body d0) w'/\cw B w w':=by
 obtain⟨hx,iR,hh,cr⟩:=fU hg;have ht:l0<top:=Nat.lt_of_lt_of_le hx ax.cm.nx;obtain⟨o',hb,hO,hB⟩:=ax.rel.block ht iR hl;obtain⟨ta,db,M,rfl,yf,iV,hd,_⟩:=hO;have Gf:ρ.le<|eM ρ s.nx (w.heap.size,0):=oi h1;have r1:=ax.rel.new (n:=s.nx) (o:=.loop .ready none fn t nt ps.toList assign body d0) (o':=.loop {state:=.ready,pending:=none,fn,tmps:=a.tmps,params:=ps,assign,body,defers:=db}) (N:=0) l1 h1 rfl ⟨a.tmps,db,M,by simp,ax.tr.mono Gf,ax.nt,Gf _ _ hd,eW⟩;refine⟨_,_,Ext.mq h1,⟨w.heap.size,0,iP _ _ _,?_⟩,r1,(gN.alloc w _).below ax.rel.size⟩;simp only[Instr.enterLoop,Sem.run_bind,Ck hb,Result.andThen_ok,Sem.run_pure,newObj,Sem.run]
theorem Rg{p:Option Code}(hp:∀c,p=some c->iz c)(hk:jy k):jy<|andThen p k:=by
 cases p with
 |none=>exact hk
 |some c=>exact .cons (hp c rfl) hk
theorem R4(p:Option Code)(k:List Item):(p.map Item.code).toList++k=andThen p k:=by cases p<;>rfl
theorem aay{f:Operand}(hc:fQ P B YG)(hl:∀t a,YF<|YG t a)(bC:Fr ρ af b a)(ax:At B ρ s af.nt af.tmps w a)(hf:dA s.nx s1.nx ρ)(oz:af.todo= .code (.rangeFunc f ps assign body)::k)(h:uT f ps.toList assign body YG af.fn af.tmps af.nt af.defers af.round k s= .ok x s1):lR P B ρ s s1 w af b cs (lone (b.atR a af.todo) cs w) x:=by
 have Dj:iz assign/\iz body:=by have:=bC.ok;rw[oz] at this;exact this.head
 have eW:Fu none assign body:=⟨(fun c e=>by cases e),Dj.1,Dj.2⟩;have hk:jy k:=by have:=bC.ok;rw[oz] at this;exact this.tail
 unfold uT at h;cases hr:af.round with
 |none=>
  rw[hr] at h;have nA:=bC.round;rw[hr] at nA;have GS:b.roundOf=none:=by
   cases e:b.roundOf with
   |none=>rfl
   |some _=>rw[e] at nA;cases nA
  obtain⟨df,s2,h1,h⟩:=M.aN h;obtain⟨l,s3,h2,h⟩:=M.aN h;obtain⟨g,h3,h⟩:=bu h;obtain⟨y,s4,h4,h⟩:=M.aN h;obtain⟨p,s5,h5,h⟩:=M.aN h;obtain⟨rfl,rfl⟩:=bA h;obtain⟨t1,rfl,rfl⟩:=uJ h1;obtain⟨t2,rfl,rfl⟩:=uJ h2;have jo:bB {s with h:=(s.h.put s.nx<|some .defs).put (s.nx+1)<|some<|.loop .ready none af.fn af.tmps af.nt ps.toList assign body s.nx,nx:=s.nx+1+1}:=⟨by have:=ax.cm.mark;show s.mark<=s.nx+1+1;omega,t2⟩;have BP:=(YF.mV hl _ _).le jo h4;have o7:=(YF.mV hl _ _).cm jo h4;have Qi:=(YF.lM _).le o7 h5;have Px:s.nx+2<=s4.nx:=BP;obtain⟨σ,e1,e2,e3,e4,e5,e6⟩:=acU (P:=P) (fn:=af.fn) (ps:=ps) ax (hf _ (Nat.le_refl _) aj aj) (hf _ aj aj aj) t1 t2 eW;have yd:VR σ g<|a.eval f:=(CJ ax.tr ax.g h3).mono e1.le;have lP:dA (s.nx+2) s4.nx σ:=(hf.sub (Nat.le_refl _) Qi).next aj e1
  have OY:=SE (P:=P) hc (ax.g.mono e1.le) jo e5 lP yd (args:=[.yield<|s.nx+1]) (vs:= #[.func (.yield<|w.heap.size+1) #[] #[]]) (by simp only[ay,VR];exact⟨_,_,rfl,⟨_,_,e3,rfl⟩,rfl⟩) h4;have Gg:=(show(Instr.enterLoop b.fn a.tmps ps assign body b.roundOf).run P w=(Instr.enterLoop af.fn a.tmps ps assign body none).run P w by rw[bC.fn,GS]).trans e4;obtain⟨v,w',⟨τ,g1,g2,g3,g4⟩,st⟩:=Rf (cs:=cs) (k:=k) Gg OY;obtain⟨q1,q2,w5,q3,q4,q5⟩:=Rx (P:=P) o7 g3 (g1.le _ _ e3) h5;have ext:Ext s.nx s4.nx ρ τ:=e1.trans aj Px g1;refine⟨τ,{a with defers:=[{target:=.collected w.heap.size,args:= #[]}]++a.defers},w5,by rw[q1];exact ext,⟨ax.tr.mono ext.le,q4,ax.g.mono ext.le,ax.nt,(YF.lM _).cm o7 h5⟩,?_,(e6.trans g4).trans q5,⟨rfl,rfl,hr.symm⟩,Rg q2 hk,trivial,?_⟩
  ·exact⟨w.heap.size,0,a.defers,rfl,g1.le _ _ e2,bC.defs.mono ext.le⟩
  ·rw[oz];refine Steps.trans st<|.one ?_;rw[stepR_endRangeFunc q3,R4];rfl
 |some l0=>
  rw[hr] at h;have nA:=bC.round;rw[hr] at nA;obtain⟨bl,GS,N0,Qj⟩:∃bl,b.roundOf=some bl/\∃N,ρ l0=some (bl,N):=by
   cases e:b.roundOf with
   |none=>rw[e] at nA;cases nA
   |some bl=>rw[e] at nA;exact⟨bl,rfl,nA⟩
  obtain⟨ob,s2,h1,h⟩:=M.aN h;obtain⟨x8,st0,alO,f0,t0,D7,D8,a0,b0,d0,rfl⟩:=Cn h1;obtain⟨l,s3,h2,h⟩:=M.aN h;obtain⟨g,h3,h⟩:=bu h;obtain⟨y,s4,h4,h⟩:=M.aN h;obtain⟨p,s5,h5,h⟩:=M.aN h;obtain⟨rfl,rfl⟩:=bA h;obtain⟨hx,iR,hh,cr⟩:=fU x8;have dz:bB s2:=(YF.bt _).cm ax.cm x8;obtain⟨t2,rfl,rfl⟩:=uJ h2;have jo:bB {s2 with h:=s2.h.put s2.nx<|some<|.loop .ready none af.fn af.tmps af.nt ps.toList assign body d0,nx:=s2.nx+1}:=⟨by have:=dz.mark;show s2.mark<=s2.nx+1;omega,t2⟩;have BP:=(YF.mV hl _ _).le jo h4;have o7:=(YF.mV hl _ _).cm jo h4;have Qi:=(YF.lM _).le o7 h5;have Px:s2.nx+1<=s4.nx:=BP;obtain⟨σ,w2,e1,⟨bb,M2,e3,e4⟩,e5,e6⟩:=acV (P:=P) (fn:=af.fn) (ps:=ps) ax (hf _ (Nat.le_refl _) aj aj) (by rw[←cr];omega) eW x8 Qj;rw[←hh, ←cr] at e5;rw[←cr] at e1 e3;have yd:VR σ g<|a.eval f:=(CJ ax.tr ax.g h3).mono e1.le;have lP:dA (s2.nx+1) s4.nx σ:=(show dA s2.nx s4.nx ρ by rw[cr];exact hf.sub (Nat.le_refl _) Qi).next aj e1
  have OY:=SE (P:=P) hc (ax.g.mono e1.le) jo e5 lP yd (args:=[.yield s2.nx]) (vs:= #[.func (.yield bb) #[] #[]]) (by simp only[ay,VR];exact⟨_,_,rfl,⟨_,_,e3,rfl⟩,rfl⟩) h4;have Gg:=(show(Instr.enterLoop b.fn a.tmps ps assign body b.roundOf).run P w=(Instr.enterLoop af.fn a.tmps ps assign body<|some bl).run P w by rw[bC.fn,GS]).trans e4;obtain⟨v,w',⟨τ,g1,g2,g3,g4⟩,st⟩:=Rf (cs:=cs) (k:=k) Gg OY;obtain⟨q1,q2,w5,q3,q4,q5⟩:=Rx (P:=P) o7 g3 (g1.le _ _ e3) h5;have ext:Ext s.nx s4.nx ρ τ:=by rw[←cr];exact e1.trans aj Px g1
  refine⟨τ,{a with defers:=[]++a.defers},w5,by rw[q1];exact ext,⟨ax.tr.mono ext.le,q4,ax.g.mono ext.le,ax.nt,(YF.lM _).cm o7 h5⟩,?_,(e6.trans g4).trans q5,⟨rfl,rfl,hr.symm⟩,Rg q2 hk,trivial,?_⟩
  ·exact bC.defs.mono ext.le
  ·rw[oz];refine Steps.trans st<|.one ?_;rw[stepR_endRangeFunc q3,R4];rfl
end
end Go.Rn
namespace Go.Rn
open Go.RowKit
variable {x:bq} {s2:AS} {k:List Item} {c:Code} {af:AF}
theorem YY{P:Program}{b:Frame}{a:Act}{cs:List Frame}{w:World}:step P (lone (b.atR a<|.inScope c::k) cs w)= .next (lone (b.atR a k) cs w):=step_lone_go (by simp[stepG,stepG.exec,Frame.atR])
theorem Zr{P:Program}{b:Frame}{a:Act}{cs:List Frame}{w:World}:step P (lone (b.atR a<|.code (.scope c)::k) cs w)= .next (lone (b.atR a<|.code c:: .inScope c::k) cs w):=step_lone_go (by simp[stepG,stepG.exec,Frame.atR])
section
variable {P:Program} {B:aJ} {ρ:Ren} {w:World} {s s1:AS} {YG:aK} {b:Frame} {a:Act} {cs:List Frame}
theorem aaz{l bl N:Nat}{bL:Option Code}{f0 D7 d0:Nat}{t0:Tr AV}{D8:List Tmp}{a0 b0:Code}{u:Unit}(fi:bB s)(r:Rel B ρ s.h w)(hl:ρ l=some (bl,N))(hg:bt l s= .ok (.loop .ready bL f0 t0 D7 D8 a0 b0 d0) s2)(h:bJ l (some<|.loop .busy bL f0 t0 D7 D8 a0 b0 d0) s2= .ok u s1):
 s1.nx=s.nx/\∃w',(Instr.beginRound bl).run P w= .ok () w'/\Rel B ρ s1.h w'/\cw B w w':=by
 have iR:=fU hg;have eN:∀c,bL=some c->iz c:=by obtain⟨o',hb,hO,_⟩:=r.block (Nat.lt_of_lt_of_le iR.1 fi.nx) iR.2.1 hl;obtain⟨_,_,_,_,_,_,_,eW⟩:=hO;exact eW.bL
 obtain⟨e1,q,e2,e3,e4,_,_,_,_,_,_,_,e5,e6⟩:=MW fi r hg hl eN h;refine⟨e1,_,?_,e5,e6⟩;subst e4;simp only[Instr.beginRound,Sem.run_bind,Ck e2,Result.andThen_ok,Lv e2,e3,Sem.run_pure]
theorem EK(bH:P.follows .mixedOrders=true)(hc:fQ P B YG)(hl:∀t a,YF<|YG t a)(bC:Fr ρ af b a)(ax:At B ρ s af.nt af.tmps w a)(hf:dA s.nx s1.nx ρ)(h:ja P YG af s= .ok x s1):lR P B ρ s s1 w af b cs (lone (b.atR a af.todo) cs w) x:=by
 obtain⟨fn,t,nt,todo,d,r⟩:=af;cases todo with
 |nil=>obtain⟨rfl,rfl⟩:=bA (show M.pure (.leave ⟨fn,t,nt,[],d,r⟩ none) s= .ok x s1 from h);exact Cr bC ax rfl rfl ⟨rfl,rfl,rfl⟩ .nil rfl<|Steps.refl _ _
 |cons it k=>
  have hk:jy k:=bC.ok.tail;have pQ:I0 it:=bC.ok.head;have h':(vh P it).val YG fn t nt d r k s= .ok x s1:=h;have calm:∀(l:List Item),jy l->M.pure (.go ⟨fn,t,nt,l,d,r⟩) s= .ok x s1->step P (lone (b.atR a<|it::k) cs w)= .next (lone (b.atR a l) cs w)->lR P B ρ s s1 w ⟨fn,t,nt,it::k,d,r⟩ b cs (lone (b.atR a<|it::k) cs w) x:=by intro l kV hp hs;obtain⟨rfl,rfl⟩:=bA hp;exact Cr bC ax rfl rfl ⟨rfl,rfl,rfl⟩ kV trivial<|.one hs
  cases it with
  |code c=>
   cases c with
   |skip=>exact calm k hk h' stepR_skip
   |label l=>exact calm k hk h' stepR_label
   |seq p q=>exact calm (.code p:: .code q::k) (.cons pQ.1<|.cons pQ.2 hk) h' stepR_seq
   |cond c p q=>
    obtain⟨v,h1,h2⟩:=bu (show(aB (aH t c) fun v=>aB (w9 v) fun v=>M.pure<|.go ⟨fn,t,nt,.code (@Bool.rec (fun _=>Code) q p v)::k,d,r⟩) s= .ok x s1 from h');obtain⟨y,h3,h4⟩:=bu h2;have hv:=(CJ ax.tr ax.g h1).Tn h3;cases y with
    |true=>exact calm (.code p::k) (.cons pQ.1 hk) h4<|stepR_cond hv
    |false=>exact calm (.code q::k) (.cons pQ.2 hk) h4<|stepR_cond hv
   |block id c=>exact calm (.code c:: .inBlock id::k) (.cons pQ<|.cons trivial hk) h' stepR_block
   |loop c=>exact calm (.code c:: .inLoop c::k) (.cons pQ<|.cons pQ hk) h' stepR_loop
   |scope c=>exact calm (.code c:: .inScope c::k) (.cons pQ<|.cons pQ hk) h' Zr
   |exit id=>
    have h2:Df id YG fn t nt d r k s= .ok x s1:=h';unfold Df at h2;cases e:exitTo id k with
    |some k'=>rw[e] at h2;exact calm k' (Me e hk) h2<|stepR_exit e
    |none=>rw[e] at h2;obtain⟨rfl,rfl⟩:=bA h2;exact Cr bC ax rfl rfl ⟨rfl,rfl,rfl⟩ bC.ok ⟨k,rfl,e⟩<|Steps.refl _ _
   |goto l=>
    have h2:Dg l YG fn t nt d r k s= .ok x s1:=h';unfold Dg at h2;cases e:gotoIn l k with
    |some k'=>rw[e] at h2;exact calm k' (Mf e hk) h2<|stepR_goto e
    |none=>rw[e] at h2;obtain⟨rfl,rfl⟩:=bA h2;exact Cr bC ax rfl rfl ⟨rfl,rfl,rfl⟩ bC.ok ⟨k,rfl,e⟩<|Steps.refl _ _
   |ret=>obtain⟨rfl,rfl⟩:=bA (show M.pure (.leave ⟨fn,t,nt,.code .ret::k,d,r⟩<|some .ret) s= .ok x s1 from h');exact Cr bC ax rfl rfl ⟨rfl,rfl,rfl⟩ bC.ok ⟨k,rfl⟩<|Steps.refl _ _
   |region id ops draw=>
    cases draw with
    |false=>obtain⟨t1,s2,h1,h2⟩:=M.aN (show((jf P YG nt ops ops.toList t).bind fun t=>M.pure<|.go ⟨fn,t,nt,k,d,r⟩) s= .ok x s1 from h');obtain⟨rfl,rfl⟩:=bA h2;exact SI bC rfl hk<|ZP hc hl ax hf h1 b k cs
    |true=>obtain⟨t1,s2,h1,h2⟩:=M.aN (show((p7 P YG nt ops t).bind fun t=>M.pure<|.go ⟨fn,t,nt,k,d,r⟩) s= .ok x s1 from h');obtain⟨rfl,rfl⟩:=bA h2;exact SI bC rfl hk<|Zq bH (pQ rfl) hc hl ax hf h1 b k cs
   |rangeFunc f ps p q=>exact aay hc hl bC ax hf rfl h'
   |refuse why=>cases h'
  |inBlock id=>exact calm k hk h' stepR_inBlock
  |inScope c=>exact calm k hk h' YY
  |inLoop c=>exact calm (.code c:: .inLoop c::k) (.cons pQ<|.cons pQ hk) h' stepR_inLoop
  |beginRound=>
   have h2:yO YG fn t nt d r k s= .ok x s1:=h';unfold yO at h2;cases r with
   |none=>cases h2
   |some l=>
    obtain⟨bl,GS,N0,Qj⟩:∃bl,b.roundOf=some bl/\∃N,ρ l=some (bl,N):=by
     have nA:=bC.round;cases e:b.roundOf with
     |none=>rw[e] at nA;cases nA
     |some bl=>rw[e] at nA;exact⟨bl,rfl,nA⟩
    obtain⟨o,s2,h3,h4⟩:=M.aN h2;obtain⟨h5,st,bL,f0,t0,D7,D8,a0,b0,d0,rfl⟩:=Cn h3;cases st<;>first|(cases h4;done)|skip
    obtain⟨u,s3,h6,h7⟩:=M.aN h4;obtain⟨rfl,rfl⟩:=bA h7;obtain⟨e1,w',e2,e3,e4⟩:=aaz (P:=P) ax.cm ax.rel Qj h5 h6;have dz:bB s1:=(YF.bJ _ _).cm ((YF.bt _).cm ax.cm h5) h6;exact⟨ρ,a,w',by rw[e1];exact Ext.refl _ _ _,⟨ax.tr,e3,ax.g,ax.nt,dz⟩,bC.defs,e4,⟨rfl,rfl,rfl⟩,hk,trivial,.one<|stepR_beginRound GS e2⟩
  |_=>cases h'
theorem lR.JF{fr:AF}{m:Machine}(bC:Fr ρ af b a)(h:lR P B ρ s s2 w af b cs m<|.go fr)(kX:s.nx<=s2.nx)(pP:s2.nx<=s1.nx)(k:∀(σ:Ren) (a':Act) (w':World),Ext s.nx s2.nx ρ σ->Fr σ fr b a'->At B σ s2 fr.nt fr.tmps w' a'->lR P B σ s2 s1 w' fr b cs (lone (b.atR a' fr.todo) cs w') x):lR P B ρ s s1 w af b cs m x:=by obtain⟨σ,a',w',e1,e2,e3,e4,⟨e5,e6,e7⟩,e8,_,e9⟩:=h;have iW:fr.nt=af.nt:=e6;obtain⟨τ,GP,ni,f1,f2,f3,f4,⟨f5,f6,f7⟩,f8,f9,f10⟩:=k σ a' w' e1 ⟨bC.fn.trans e5.symm,bC.kind,by have:=bC.round.mono e1.le;rw[←e7] at this;exact this,e3,e8⟩ (by rw[iW];exact e2);exact⟨τ,GP,ni,e1.trans kX pP f1,by rw[iW] at f2;exact f2,f3,e4.trans f4,⟨f5.trans e5,f6.trans e6,f7.trans e7⟩,f8,f9,Steps.trans e9 f10⟩
theorem EL(bH:P.follows .mixedOrders=true)(hc:fQ P B YG)(hl:∀t a,YF<|YG t a):∀(n:Nat) {ρ:Ren} {w:World} {s s1:AS} {a:Act} {af:AF} {x:bq},Fr ρ af b a->At B ρ s af.nt af.tmps w a->dA s.nx s1.nx ρ->
 nE P YG n af s= .ok x s1->lR P B ρ s s1 w af b cs (lone (b.atR a af.todo) cs w) x
 |0,ρ,w,s,s1,a,af,x,bC,ax,hf,h=>EK bH hc hl bC ax hf h
 |n+1,ρ,w,s,s1,a,af,x,bC,ax,hf,h=>by
  obtain⟨y,s2,h1,h2⟩:=M.aN (show((nE P YG n af).bind fun x=> @bq.rec (fun _=>M bq) (nE P YG n) (fun fr j=>M.pure<|.leave fr j) x) s= .ok x s1 from h);have kX:=(YF.nE P hl n af).le ax.cm h1;have dz:=(YF.nE P hl n af).cm ax.cm h1;cases y with
  |go fr=>have rP:nE P YG n fr s2= .ok x s1:=h2;have pP:=(YF.nE P hl n fr).le dz rP;have w1:=EL bH hc hl n bC ax (hf.sub (Nat.le_refl _) pP) h1;exact w1.JF bC kX pP fun σ a' w' e1 Bn Bo=>EL bH hc hl n Bn Bo (hf.next kX e1) rP
  |leave fr j=>obtain⟨rfl,rfl⟩:=bA (show M.pure (.leave fr j) s2= .ok x s1 from h2);exact EL bH hc hl n bC ax hf h1
theorem Mm(bH:P.follows .mixedOrders=true)(hc:fQ P B YG)(hl:∀t a,YF<|YG t a):∀(n k:Nat) {ρ:Ren} {w:World} {s s1:AS} {a:Act} {af:AF} {x:bq},Fr ρ af b a->At B ρ s af.nt af.tmps w a->dA s.nx s1.nx ρ->
 qg P YG n k af s= .ok x s1->lR P B ρ s s1 w af b cs (lone (b.atR a af.todo) cs w) x
 |0,k,ρ,w,s,s1,a,af,x,bC,ax,hf,h=>by cases h
 |n+1,k,ρ,w,s,s1,a,af,x,bC,ax,hf,h=>by
  obtain⟨y,s2,h1,h2⟩:=M.aN (show((nE P YG k af).bind fun x=> @bq.rec (fun _=>M bq) (fun fr=>qg P YG n (Nat.succ k) fr) (fun fr j=>M.pure<|.leave fr j) x) s= .ok x s1 from h);have kX:=(YF.nE P hl k af).le ax.cm h1;have dz:=(YF.nE P hl k af).cm ax.cm h1;cases y with
  |go fr=>have rP:qg P YG n (k+1) fr s2= .ok x s1:=h2;have pP:=(YF.qg P hl n (k+1) fr).le dz rP;have w1:=EL (b:=b) (cs:=cs) bH hc hl k bC ax (hf.sub (Nat.le_refl _) pP) h1;exact w1.JF bC kX pP fun σ a' w' e1 Bn Bo=>Mm bH hc hl n (k+1) Bn Bo (hf.next kX e1) rP
  |leave fr j=>obtain⟨rfl,rfl⟩:=bA (show M.pure (.leave fr j) s2= .ok x s1 from h2);exact EL bH hc hl k bC ax hf h1
end
end Go.Rn
namespace Go.Rn
open Go.RowKit
variable {x:AV} {l bl N:Nat}
section
variable {P:Program} {B:aJ} {ρ:Ren} {w:World} {s s1:AS} {YG:aK}
theorem Lx{nt:Nat}(iV:nt<=top):∀{ps:List Tmp} {args:List AV} {vs:List Value} {t:Tr AV} {arr:Array Value},TR ρ nt t arr->ay ρ args vs->(∀p∈ps,p<nt)->
 TR ρ nt (jw ps args t) ((ps.zip vs).foldl (fun tmps (t,a)=>tmps.setIfInBounds t a) arr)
 |[],args,vs,t,arr,h,_,_=>by simpa[jw] using h
 |p::ps,[],vs,t,arr,h,hv,_=>by simp only[ay] at hv;subst hv;simpa[jw] using h
 |p::ps,v::args,vs,t,arr,h,hv,hp=>by simp only[ay] at hv;obtain⟨u,us,rfl,h1,h2⟩:=hv;simp only[jw,List.zip_cons_cons,List.foldl_cons];exact Lx iV (h.set (hp p List.mem_cons_self) iV h1) h2 fun q hq=>hp q<|List.mem_cons_of_mem _ hq
theorem Ry{j:Option Code}(fi:bB s)(r:Rel B ρ s.h w)(hl:ρ l=some (bl,N))(hj:∀c,j=some c->iz c)(h:endRound l j s= .ok x s1):
 s1.nx=s.nx/\x= .bool j.isNone/\∃w',(Instr.endRound bl j).run P w= .ok (.bool j.isNone) w'/\Rel B ρ s1.h w'/\cw B w w':=by
 unfold endRound at h;obtain⟨o,s2,h1,h2⟩:=M.aN h;obtain⟨h3,st,bL,fn,t,nt,ps,aa,bb,d,rfl⟩:=Cn h1;obtain⟨u,s3,h4,h5⟩:=M.aN h2;obtain⟨rfl,rfl⟩:=bA h5;obtain⟨e1,q,e2,e3,e4,_,_,_,_,_,_,_,e5,e6⟩:=MW fi r h3 hl hj h4;refine⟨e1,rfl,_,?_,e5,e6⟩;cases j<;>simp only[Instr.endRound,Sem.run_bind,Ck e2,Result.andThen_ok,Lv e2,Sem.run_pure]<;>rfl
theorem aaA(bH:P.follows .mixedOrders=true)(hc:fQ P B YG)(hl:∀t a,YF<|YG t a){args:List AV}{vs:Array Value}(fi:bB s)(r:Rel B ρ s.h w)(hg:gC ρ)(hf:dA s.nx s1.nx ρ)(h:Au P YG l args s= .ok x s1)(hv:ay ρ args vs.toList)(BQ:ρ l=some (bl,N)):jg P ((Instr.yield bl vs).run P w)<|ki B ρ s s1 w x:=by
 unfold Au at h;obtain⟨o,s2,h1,h2⟩:=M.aN h;obtain⟨h3,st,bL,fn,t,nt,ps,aa,bb,d,rfl⟩:=Cn h1;obtain⟨h4,h5⟩:=cV h2;obtain⟨y,s3,h6,h7⟩:=M.aN h5;obtain⟨q1,q2⟩:=and_true.1 h4;have hlen:=ey.1 q1;have Qk:∀p∈ps,p<nt:=fun p hp=>by have:=List.all_eq_true.1 q2 p hp;rw[←blt_eq];exact this
 obtain⟨hx,iR,hh,cr⟩:=fU h3;have dz:bB s2:=(YF.bt _).cm fi h3;have bZ:l<top:=Nat.lt_of_lt_of_le hx fi.nx;obtain⟨o',hb,hO,hB⟩:=r.block bZ iR BQ;obtain⟨ta,db,M,rfl,yf,iV,hd,eW⟩:=hO;have Ob:(Instr.yield bl vs).run P w= .ok (.round bl fn ((ps.zip vs.toList).foldl (fun tmps (t,a)=>tmps.setIfInBounds t a) ta) aa bb) w:=by
  have kr:¬(vs.size≠ps.toArray.size):=by have:=hv.length;simp at this ⊢;omega
  simp only[Instr.yield,Sem.run_bind,Ck hb,Result.andThen_ok,if_neg kr,Sem.run_pure];rw[←Array.foldl_toList];simp
 rw[Ob];intro c cs;cases y with
 |go fr=>cases h7
 |leave fr j=>
  have BL:endRound l j s3= .ok x s1:=h7;let b:Frame:={(default:Frame) with fn:=fn,kind:=.normal,roundOf:=some bl};let a:Act:={tmps:=(ps.zip vs.toList).foldl (fun tmps (t,a)=>tmps.setIfInBounds t a) ta,defers:=[]};have pP:=(YF.qg P hl depth 2 ⟨fn,jw ps args t,nt,[.code aa,.beginRound,.code bb],[],some l⟩).le dz h6;have jo:=(YF.qg P hl depth 2 ⟨fn,jw ps args t,nt,[.code aa,.beginRound,.code bb],[],some l⟩).cm dz h6;have BR:=(YF.endRound l j).le jo BL;have bC:Fr ρ ⟨fn,jw ps args t,nt,[.code aa,.beginRound,.code bb],[],some l⟩ b a:=⟨rfl,rfl,⟨N,BQ⟩,rfl,.cons eW.assign<|.cons trivial<|.cons eW.body .nil⟩;have ax:At B ρ s2 nt (jw ps args t) w a:=⟨Lx iV yf hv Qk,by rw[hh];exact r,hg,iV,dz⟩;obtain⟨σ,a',w',e1,e2,e3,e4,_,_,e6,e7⟩:=Mm (cs:=c::cs) bH hc hl depth 2 bC ax (by rw[cr];exact hf.sub (Nat.le_refl _) BR) h6;have iW:Leaves j fr.todo:=e6;obtain⟨f1,rfl,ni,f2,f3,f4⟩:=Ry (P:=P) jo e2.rel (e1.le _ _ BQ) iW.code BL;refine⟨.bool j.isNone,ni,⟨σ,by rw[f1, ←cr];exact e1,by simp only[VR],f3,e4.trans f4⟩,?_⟩;have xf:Frame.round bl fn ((ps.zip vs.toList).foldl (fun tmps (t,a)=>tmps.setIfInBounds t a) ta) aa bb .normal=b.atR a [.code aa,.beginRound,.code bb]:=rfl;rw[xf];refine Steps.trans e7<|.one ?_;show step P (lone (b.atR a' fr.todo) (c::cs) w')=_;unfold Leaves at iW;split at iW
  ·rw[iW];exact stepR_round_end rfl rfl f2
  ·obtain⟨k,e⟩:=iW;rw[e];exact stepR_round_ret rfl rfl f2
  ·obtain⟨k,e,e'⟩:=iW;rw[e];exact stepR_round_exit rfl rfl e' f2
  ·obtain⟨k,e,e'⟩:=iW;rw[e];exact stepR_round_goto rfl rfl e' f2
  ·cases iW
theorem Za{nt:Nat}{t:Tr AV}{tmps:Array Value}{rv:ResultVar}(ht:TR ρ nt t tmps)(fi:bB s)(r:Rel B ρ s.h w)(h:Ar P t rv s= .ok x s1):
 s1.h=s.h/\s1.nx=s.nx/\bB s1/\∃v,(match rv with| .tmp t=>pure (tmps.getD t undef)| .cell a t=>do Go.loadVar t (←asAddr (tmps.getD a undef)):Sem Value).run P w= .ok v w/\VR ρ x v:=by
 cases rv with
 |tmp i=>obtain⟨hx,rfl⟩:=gT (show lift (t.get i) s= .ok x s1 from h);exact⟨rfl,rfl,fi,_,rfl,ht.2 i x hx⟩
 |cell a ty=>
  obtain⟨ad,s2,h1,h2⟩:=M.aN (show((lift (match t.get a with|some x=>addrOf x|none=>none)).bind fun a=>Rn.loadVar P ty a.1 a.2) s= .ok x s1 from h);obtain⟨h3,hs⟩:=gT h1;subst hs;cases Ql:t.get a with
  |none=>rw[Ql] at h3;cases h3
  |some xa=>
  rw[Ql] at h3;obtain⟨b,N,h4,h5⟩:=(ht.2 a xa Ql).MR h3;obtain⟨a1,a2,v,a3,a4⟩:=RD (P:=P) fi r h2 h4;exact⟨a1,a2,(YF.loadVar P ty _ _).cm fi h2,v,by simp[h5,asAddr,a3],a4⟩
theorem Ho{nt:Nat}{t:Tr AV}{tmps:Array Value}(ht:TR ρ nt t tmps):∀{l:List ResultVar} {vs:List AV} {s s1:AS},bB s->Rel B ρ s.h w->sr P t l s= .ok vs s1->
 s1.h=s.h/\s1.nx=s.nx/\∃us,(l.mapM fun| .tmp t=>pure (tmps.getD t undef)| .cell a t=>do Go.loadVar t (←asAddr (tmps.getD a undef)):Sem<|List Value).run P w= .ok us w/\ay ρ vs us
 |[],vs,s,s1,fi,r,h=>by obtain⟨rfl,rfl⟩:=bA (show M.pure [] s= .ok vs s1 from h);exact⟨rfl,rfl,[],rfl,by simp[ay]⟩
 |rv::l,vs,s,s1,fi,r,h=>by
  obtain⟨v,s2,h1,h2⟩:=M.aN (show((Ar P t rv).bind fun v=>(sr P t l).bind fun vs=>M.pure<|v::vs) s= .ok vs s1 from h);obtain⟨us,s3,h3,h4⟩:=M.aN h2;obtain⟨rfl,rfl⟩:=bA h4;obtain⟨a1,a2,a3,u,a4,a5⟩:=Za ht fi r h1;obtain⟨b1,b2,KO,b3,b4⟩:=Ho ht a3 (by rw[a1];exact r) h3;refine⟨b1.trans a1,b2.trans a2,u::KO,?_,?_⟩
  ·rw[List.mapM_cons];simp only[Sem.run_bind,a4,Result.andThen_ok,b3,Sem.run_pure]
  ·simp only[ay];exact⟨u,KO,rfl,a5,b4⟩
theorem Hs{fr:Frame}{cs:List Frame}:∀{l:List Nat} {ds:List Deferred} {s s1:AS} {w:World} {u:Unit},bB s->Rel B ρ s.h w->vD ρ l ds->qT l s= .ok u s1->
 s1.nx=s.nx/\bB s1/\∃w',Rel B ρ s1.h w'/\cw B w w'/\∀(fr:Frame) (cs:List Frame),fr.mode≠ .run->fr.defers=ds->Steps P (lone fr cs w) (lone {fr with defers:=[]} cs w')
 |[],ds,s,s1,w,u,fi,r,hd,h=>by obtain⟨_,rfl⟩:=bA (show M.pure () s= .ok u s1 from h);have D5:ds=[]:=hd;subst D5;exact⟨rfl,fi,w,r,cw.refl _ _,fun fr cs _ e=>by rw[←e];exact Steps.refl _ _⟩
 |d::l,ds,s,s1,w,u,fi,r,hd,h=>by
  obtain⟨b,N,ds',rfl,hn,hds⟩:=hd;obtain⟨o,s2,h1,h2⟩:=M.aN (show((bt d).bind fun o=>match o with| .defs=>(bJ d none).bind fun _=>qT l|_=>fail) s= .ok u s1 from h);obtain⟨hx,iR,hh,cr⟩:=fU h1;have dz:=(YF.bt d).cm fi h1;have bZ:d<top:=Nat.lt_of_lt_of_le hx fi.nx;obtain⟨o',hb,hO,hB⟩:=r.block bZ iR hn;cases o with
  |defs=>
   obtain⟨u2,s3,h3,h4⟩:=M.aN h2;have jo:=(YF.bJ d none).cm dz h3;obtain⟨_,_,_,i1,i2⟩:=jx h3;have hO':o'= .deferred (some []):=hO;subst hO';obtain⟨g3,g4⟩:=Cm (o':=.deferred none) hb;obtain⟨k1,_⟩:=r.Vh bZ iR rfl rfl hn g3;obtain⟨e1,e2,w',e3,e4,e5⟩:=Hs (fr:=fr) (cs:=cs) jo (by rw[i1,hh];exact k1) hds h4;refine⟨by rw[e1,i2,cr],e2,w',e3,(g3.below<|hB rfl).trans e4,fun fr cs hm hdf=>?_⟩;have af6:(Instr.takeDeferred b).run P w= .ok [] {w with heap:=w.heap.setIfInBounds b<|.deferred none}:=by simp[Instr.takeDeferred,getObj,setObj,Sem.run,hb]
   have hs:=step_collected (P:=P) (cs:=cs) hm hdf rfl af6;exact .head hs<|e5 {fr with defers:=[]++ds'} cs hm rfl
  |_=>cases h2
end
end Go.Rn
namespace Go.Rn
open Go.RowKit
theorem SJ{ρ:Ren}{e:MapEntry}:∀{left:List<|AV×AV} {l:List MapEntry},dM ρ left l->e∈l->
 ∃x r l',(x,r)∈xw left/\VR ρ x.1 e.key/\VR ρ x.2 e.val/\dM ρ r l'/\l.Perm (e::l')
 |[],l,h,he=>by simp only[dM] at h;subst h;cases he
 |y::ys,l,h,he=>by
  simp only[dM] at h;obtain⟨e0,es,rfl,h1,h2,h3⟩:=h;rcases List.mem_cons.1 he with rfl|he
  ·exact⟨y,ys,es,by simp[xw],h1,h2,h3,List.Perm.refl _⟩
  ·obtain⟨x,r,l',k1,k2,k3,k4,k5⟩:=SJ h3 he;refine⟨x,y::r,e0::l',?_,k2,k3,?_,?_⟩
   ·simp only[xw,List.mem_cons,List.mem_map];exact .inr ⟨(x,r),k1,rfl⟩
   ·simp only[dM];exact⟨e0,l',rfl,h1,h2,k4⟩
   ·exact(List.Perm.cons e0 k5).trans<|List.Perm.swap e e0 l'
theorem dM.acW{ρ:Ren}{left:List<|AV×AV}(h:dM ρ left []):left=[]:=by
 cases left with
 |nil=>rfl
 |cons x xs=>simp only[dM] at h;obtain⟨e,es,h,_⟩:=h;cases h
section
variable {P:Program} {B:aJ} {ρ:Ren} {w w':World} {h:Tr ae} {n m:Nat} {es left iH:List<|AV×AV} {ex:Bool} {cur iJ:Option<|AV×AV} {b N:Nat}
theorem R5{w1:World}{o:Obj}(hw:w1=w\/w1=w.drew):uU b w<|ChangeMaps.setBlock w1 b o:=by
 have h1:(ChangeMaps.setBlock w1 b o).heap=w.heap.setIfInBounds b o:=by rcases hw with rfl|rfl<;>rfl
 refine⟨?_,?_,?_,by rw[h1];simp,fun k hk=>?_⟩
 ·rcases hw with rfl|rfl<;>rfl
 ·rcases hw with rfl|rfl<;>rfl
 ·rcases hw with rfl|rfl<;>rfl
 ·rw[h1,Array.getElem?_setIfInBounds_ne aj]
theorem mT.next(ty:TypeId)(u:mT ρ w n m es ex left cur):∃b N,ρ n=some (b,N)/\
 ((left=[]/\(Instr.next (.pointer<|some ⟨b,0,none⟩) false ty).run P w= .ok (.tuple #[.bool false]) w)\/
 ∃x r v1 v2 w',(x,r)∈xw left/\VR ρ x.1 v1/\VR ρ x.2 v2/\(Instr.next (.pointer<|some ⟨b,0,none⟩) false ty).run P w= .ok (.tuple #[.bool true,v1,v2]) w'/\uU b w w'/\(∃bm M c sn,ρ m=some (bm,M)/\w'.heap[b]? =some (.mapIter (some bm) c sn c))/\mT ρ w' n m es ex r (some x)):=by
 obtain⟨b,N,bm,M,l,bp,seen,h1,h2,h3,h4,h5,h6,h7,h8,h9⟩:=u;refine⟨b,N,h1,?_⟩;have yg:(leftOf l seen).toList=l.toList.filter fun e=> !seen.contains e.born:=by simp[leftOf]
 obtain⟨l',hp,hq⟩:=h8;rcases run_next_at (P:=P) w ty b bm bp bp seen l bp h3 h4 h5.2 (Nat.le_refl _) with⟨k1,k2⟩|⟨e,he,w1,Qm,k2⟩
 ·refine .inl ⟨?_,k2⟩;have:(leftOf l seen).toList=[]:=by apply List.eq_nil_of_length_eq_zero;simpa using k1
  rw[yg] at this;rw[this] at hp;have kV:=hp.symm.eq_nil;subst kV;exact hq.acW
 ·refine .inr ?_;rw[yg] at he;have GM:e∈l':=hp.mem_iff.1 he;obtain⟨x,r,KP,p1,p2,p3,p4,p5⟩:=SJ hq GM;have cf:bm≠b:=by intro q;subst q;rw[h3] at h4;cases h4
  have fN:(ChangeMaps.setBlock w1 b<|.mapIter (some bm) bp (seen.push e.born) bp).heap[b]? =some (.mapIter (some bm) bp (seen.push e.born) bp):=by
   have bZ:b<w.heap.size:=ib h3;have:(ChangeMaps.setBlock w1 b<|.mapIter (some bm) bp (seen.push e.born) bp).heap=w.heap.setIfInBounds b (.mapIter (some bm) bp (seen.push e.born) bp):=by rcases Qm with rfl|rfl<;>rfl
   rw[this,Array.getElem?_setIfInBounds_self_of_lt bZ]
  refine⟨x,r,e.key,e.val,_,p1,p2,p3,k2,R5 Qm,⟨bm,M,bp,seen.push e.born,h2,fN⟩,?_⟩;have qv:e∈l.toList:=(List.mem_filter.1 he).1;have zO:((e::KP).map (·.born)).Nodup:=by have a:((l.toList.filter fun e=> !seen.contains e.born).map (·.born)).Nodup:=(List.filter_sublist.map _).nodup h5.1;exact((hp.trans p5).map _).nodup_iff.1 a
  rw[List.map_cons,List.nodup_cons] at zO;refine⟨b,N,bm,M,l,bp,seen.push e.born,h1,h2,fN,((R5 Qm).block bm cf).trans h4,h5,h6,h7,⟨KP,?_,p4⟩,⟨e,qv,by simp,p2,p3⟩⟩;have e1:(l.toList.filter fun x=> !(seen.push e.born).contains x.born)=(l.toList.filter fun x=> !seen.contains x.born).filter fun x=> !(x.born == e.born):=by rw[List.filter_filter];congr 1;funext x;simp only[Array.contains_push];rw[Bool.not_or,Bool.and_comm]
  have e2:(e::KP).filter (fun x=> !(x.born == e.born))=KP:=by
   rw[List.filter_cons];simp only[beq_self_eq_true,Bool.not_true,Bool.false_eq_true,if_false];refine List.filter_eq_self.2 fun x hx=>?_;have:¬x.born=e.born:=by intro q;exact zO.1 (by rw[←q];exact List.mem_map_of_mem hx)
   simp[this]
  rw[e1];have:=(hp.trans p5).filter fun x=> !(x.born == e.born);rw[e2] at this;exact this
theorem Rel.Vl(r:Rel B ρ h w)(ht:n<top)(hg:h.get n=some (.iter m es ex left cur))(hr:ρ n=some (b,N))(hw:uU b w w')(hb:∃bm M c sn,ρ m=some (bm,M)/\w'.heap[b]? =some (.mapIter (some bm) c sn c))(u:mT ρ w' n m es ex iH iJ):Rel B ρ (h.put n<|some<|.iter m es ex iH iJ) w':=by
 obtain⟨_,_,_,hB⟩:=r.block ht hg hr;obtain⟨o6,fq,_⟩:=r.iter n m es ex left cur ht hg;have rN:m≠n:=by intro e;subst e;rw[hg] at fq;cases fq
 have g:∀k,k<top->(h.put n<|some<|.iter m es ex iH iJ).get k=if k=n then some (.iter m es ex iH iJ) else h.get k:=fun k hk=>Tr.da _ _ _ _ ht hk
 have live:∀j,j<top->∀x,(if j=n then some (ae.iter m es ex iH iJ) else h.get j)=some x->∃y,h.get j=some y/\(x.dh=false->y.dh=false):=by
  intro j _ x hx;by_cases e:j=n
  ·subst e;exact⟨_,hg,fun _=>rfl⟩
  ·rw[if_neg e] at hx;exact⟨x,hx,id⟩
 refine⟨?_,?_,?_,by rw[hw.size];exact r.size,?_,r.fz.of (Ren.le_refl _) (fun b1 _ hn=>hw.block b1 fun e=>hn n _ N ht hg rfl (by rw[e];exact hr)) (fun b1 _ hn=>hn.sub fun k q hk hq gZ=>by
  rw[g k hk] at hq;obtain⟨y,e1,e2⟩:=live k hk q hq;exact⟨y,e1,e2 gZ⟩),r.tk.of (Ren.le_refl _) (fun k q hk hq xN=>by
  rw[g k hk] at hq;by_cases e:k=n
  ·rw[if_pos e] at hq;cases hq;cases xN
  ·rw[if_neg e] at hq;exact hq) (by rw[hw.size];exact Nat.le_refl _) (fun b1 _ hn=>hw.block b1 fun e=>hn n _ N ht hg rfl (by rw[e];exact hr)) (fun b1 _ hn=>hn.sub fun k q hk hq gZ=>by
  rw[g k hk] at hq;obtain⟨y,e1,e2⟩:=live k hk q hq;exact⟨y,e1,e2 gZ⟩) fun _ _ _ _ _ e=>e⟩
 ·intro k q hk hq;rw[g k hk] at hq;by_cases e:k=n
  ·subst e;rw[if_pos rfl] at hq;cases hq;obtain⟨bm,M,c,sn,q1,q2⟩:=hb;exact⟨b,N,_,hr,q2,⟨bm,M,c,sn,q1,rfl⟩,fun _=>hB rfl⟩
  ·rw[if_neg e] at hq;obtain⟨b1,N1,o1,h1,h2,h3,h4⟩:=r.is k q hk hq;refine⟨b1,N1,o1,h1,(hw.block b1 fun e2=>?_).trans h2,h3,h4⟩;subst e2;exact e<|r.one k n q _ b1 N1 N hk ht hq hg (.inr rfl) h1 hr
 ·intro k j q q' b1 N1 M1 hk hj hq dY cP h1 h2;rw[g k hk] at hq;rw[g j hj] at dY;obtain⟨y,hy,vU⟩:=live k hk q hq;obtain⟨z,hz,GK⟩:=live j hj q' dY;exact r.one k j y z b1 N1 M1 hk hj hy hz (cP.imp vU GK) h1 h2
 ·intro i m' gY iU l' c' hi hq;rw[g i hi] at hq;by_cases e:i=n
  ·subst e;rw[if_pos rfl] at hq;cases hq;exact⟨o6,by rw[g m o6,if_neg rN];exact fq,u⟩
  ·rw[if_neg e] at hq;obtain⟨eY,hl,u'⟩:=r.iter i m' gY iU l' c' hi hq;have J8:m'≠n:=by intro e2;subst e2;rw[hg] at hl;cases hl
   refine⟨eY,by rw[g m' eY,if_neg J8];exact hl,u'.mK hw.block (fun M e2=>e ?_) fun M e2=>J8 ?_⟩
   ·exact r.one i n _ _ b M N hi ht hq hg (.inr rfl) e2 hr
   ·exact r.one m' n _ _ b M N eY ht hl hg (.inr rfl) e2 hr
 ·intro i j m' zK zL y8 zo KJ KK JD J2 hi hj q1 q2;rw[g i hi] at q1;rw[g j hj] at q2;have Xv:∀k,k<top->∀zK zL y8 zo,(if k=n then some (ae.iter m es ex iH iJ) else h.get k)=some (.iter m' zK zL y8 zo)->∃KJ KK JD J2,h.get k=some (.iter m' KJ KK JD J2):=by
   intro k _ zK zL y8 zo q;by_cases e:k=n
   ·subst e;rw[if_pos rfl] at q;cases q;exact⟨_,_,_,_,hg⟩
   ·rw[if_neg e] at q;exact⟨_,_,_,_,q⟩
  obtain⟨_,_,_,_,a1⟩:=Xv i hi _ _ _ _ q1;obtain⟨_,_,_,_,a2⟩:=Xv j hj _ _ _ _ q2;exact r.lone i j m' _ _ _ _ _ _ _ _ hi hj a1 a2
theorem Rel.abH{o:ae}{o':Obj}(r:Rel B ρ h w)(ht:m<top)(hg:h.get m=some .iA)(hr:ρ m=some (b,N))(hb:w.heap[b]? =some o')(hO:OR ρ N o o')(BJ:o.own=true)(lP:∀i es ex left cur,i<top->h.get i≠some (.iter m es ex left cur)):Rel B ρ (h.put m<|some o) w:=by
 obtain⟨ho,Gd⟩:=ae.uG BJ;obtain⟨_,_,_,hB⟩:=r.block ht hg hr;have g:∀k,k<top->(h.put m<|some o).get k=if k=m then some o else h.get k:=fun k hk=>Tr.da _ _ _ _ ht hk
 have live:∀j,j<top->∀x,(if j=m then some o else h.get j)=some x->∃y,h.get j=some y/\(x.dh=false->y.dh=false):=by
  intro j _ x hx;by_cases e:j=m
  ·subst e;exact⟨_,hg,fun _=>rfl⟩
  ·rw[if_neg e] at hx;exact⟨x,hx,id⟩
 refine⟨?_,?_,?_,r.size,?_,r.fz.of (Ren.le_refl _) (fun _ _ _=>rfl) (fun b1 _ hn=>hn.sub fun k q hk hq gZ=>by
  rw[g k hk] at hq;obtain⟨y,e1,e2⟩:=live k hk q hq;exact⟨y,e1,e2 gZ⟩),r.tk.of (Ren.le_refl _) (fun k q hk hq xN=>by
  rw[g k hk] at hq;by_cases e:k=m
  ·rw[if_pos e] at hq;cases hq;rw[Gd] at xN;cases xN
  ·rw[if_neg e] at hq;exact hq) (Nat.le_refl _) (fun _ _ _=>rfl) (fun b1 _ hn=>hn.sub fun k q hk hq gZ=>by
  rw[g k hk] at hq;obtain⟨y,e1,e2⟩:=live k hk q hq;exact⟨y,e1,e2 gZ⟩) fun _ _ _ _ _ e=>e⟩
 ·intro k q hk hq;rw[g k hk] at hq;by_cases e:k=m
  ·subst e;rw[if_pos rfl] at hq;cases hq;exact⟨b,N,_,hr,hb,hO,fun _=>hB rfl⟩
  ·rw[if_neg e] at hq;exact r.is k q hk hq
 ·intro k j q q' b1 N1 M1 hk hj hq dY cP h1 h2;rw[g k hk] at hq;rw[g j hj] at dY;obtain⟨y,hy,vU⟩:=live k hk q hq;obtain⟨z,hz,GK⟩:=live j hj q' dY;exact r.one k j y z b1 N1 M1 hk hj hy hz (cP.imp vU GK) h1 h2
 ·intro i m' gY iU l' c' hi hq;rw[g i hi] at hq;by_cases e:i=m
  ·subst e;rw[if_pos rfl] at hq;cases hq;simp[ae.plain] at ho
  ·rw[if_neg e] at hq;obtain⟨eY,hl,u'⟩:=r.iter i m' gY iU l' c' hi hq;have J8:m'≠m:=by intro e2;subst e2;exact lP i _ _ _ _ hi hq
   exact⟨eY,by rw[g m' eY,if_neg J8];exact hl,u'⟩
 ·intro i j m' zK zL y8 zo KJ KK JD J2 hi hj q1 q2;rw[g i hi] at q1;rw[g j hj] at q2;by_cases e:i=m
  ·rw[if_pos e] at q1;cases q1;simp[ae.plain] at ho
  ·rw[if_neg e] at q1;by_cases e2:j=m
   ·rw[if_pos e2] at q2;cases q2;simp[ae.plain] at ho
   ·rw[if_neg e2] at q2;exact r.lone i j m' _ _ _ _ _ _ _ _ hi hj q1 q2
theorem Rel.WD(r:Rel B ρ h w)(ht:n<top)(hg:h.get n=some (.iter m es ex left cur)):Rel B ρ ((h.put n none).put m<|some<|mapOf ex es) w:=by
 obtain⟨o6,fq,b,N,bm,M,l,bp,seen,h1,h2,h3,h4,h5,h6,h7,h8,h9⟩:=r.iter n m es ex left cur ht hg;have rN:m≠n:=by intro e;subst e;rw[hg] at fq;cases fq
 have g:∀k,k<top->(h.put n none).get k=if k=n then none else h.get k:=fun k hk=>Tr.da _ _ _ _ ht hk
 refine(r.drop ht (by rw[hg];simp)).abH o6 (by rw[g m o6,if_neg rN];exact fq) h2 h4 ?_ (by cases ex<;>rfl) ?_
 ·cases ex with
  |true=>obtain⟨q1,q2⟩:=h6 rfl;subst q1;exact⟨l,rfl,rfl,q2⟩
  |false=>obtain⟨q1,q2⟩:=h7 rfl;exact⟨l,bp,rfl,q1,h5,q2⟩
 ·intro i gY iU iH iJ hi hq;rw[g i hi] at hq;by_cases e:i=n
  ·rw[if_pos e] at hq;cases hq
  ·rw[if_neg e] at hq;exact e<|r.lone i n m _ _ _ _ _ _ _ _ hi ht hq hg
end
end Go.Rn
namespace Go.Rn
open Go.RowKit
variable {rest:List Oper} {ops:Array Oper} {o:Oper} {k:List Item} {it:Operand}
section
variable {P:Program} {B:aJ} {ρ:Ren} {w w1:World} {s s1 s2:AS} {YG:aK} {b:Frame} {a:Act} {cs:List Frame}
theorem put_defers(a:Act)(dst:Option Tmp)(v:Value):(a.put dst v).defers=a.defers:=by cases dst<;>rfl
theorem HA{fr:AF}{id:Nat}{t1 t2:Tr AV}{v:Value}(hc:fQ P B YG)(hl:∀t a,YF<|YG t a)(bC:Fr ρ fr b a)(oz:fr.todo= .code (.region id ops false)::k)(me:ops.toList=o::rest)(BS:o.guard=none)(hd:∀c,o.op≠ .defer c)(qu:(execOp a.eval o).run P w= .ok (.value v) w1)(Bp:cw B w w1)(ax:At B ρ s1 fr.nt t1 w1<|a.put o.dst v)(cr:s1.nx=s.nx)(hf:dA s1.nx s2.nx ρ)(h:jf P YG fr.nt ops rest t1 s1= .ok t2 s2):
 lR P B ρ s s2 w fr b cs (lone (b.atR a fr.todo) cs w) (.go {fr with tmps:=t2,todo:=k}):=by
 have hw:Region.wanted o (yielded ops a.tmps)=true:=by unfold Region.wanted;rw[BS]
 have ho:ops[0]? =some o:=by rw[←Array.getElem?_toList,me];rfl
 have kr:ops.size=rest.length+1:=by rw[←Array.length_toList,me];rfl
 have hk:jy k:=by have:=bC.ok;rw[oz] at this;exact this.tail
 obtain⟨v',w',⟨rfl,rfl⟩,st⟩:=RZ (R:=fun v' w'=>v'=v/\w'=w1) ho hw hd (by unfold jg;rw[qu];exact⟨rfl,rfl⟩) b k cs<|List.range' 1 rest.length;obtain⟨σ,a',w2,e1,e2,e3,e4,e5⟩:=MU hc hl b k cs rest.length 1 rest rfl (by rw[me];rfl) ax hf h;refine⟨σ,a',w2,by rw[←cr];exact e1,e2,?_,Bp.trans e4,⟨rfl,rfl,rfl⟩,hk,trivial,?_⟩
 ·rw[e3,put_defers];exact bC.defs.mono e1.le
 ·rw[oz];refine .head stepR_region ?_;rw[List.range_eq_range',kr,List.range'_succ];exact Steps.trans st e5
theorem RO{fr:AF}{n:Nat}{ob:ae}(h:qW fr it s= .ok (n,ob) s1):aH fr.tmps it=some (.ptr<|some (n,0))/\bt n s= .ok ob s1:=by
 unfold qW at h;obtain⟨x,s2,h1,h2⟩:=M.aN h;obtain⟨h3,rfl⟩:=gT h1;split at h2
 ·obtain⟨y,s3,h4,h5⟩:=M.aN h2;obtain⟨h6,rfl⟩:=bA h5;cases h6;exact⟨h3,h4⟩
 ·cases h2
theorem Rz{fr:AF}(h:As fr=some (it,o,ops,rest,k)):
 ∃id,fr.todo= .code (.region id ops false)::k/\ops.toList=o::rest/\o.guard=none/\o.op= .next it false:=by
 unfold As at h;split at h
 ·rename_i id alZ k' oz;split at h
  ·rename_i o' alP me;split at h
   ·rename_i it' hg ho;cases h;exact⟨id,oz,me,hg,ho⟩
   ·cases h
  ·cases h
 ·cases h
theorem R6(bH:P.follows .mixedOrders=true)(hc:fQ P B YG)(hl:∀t a,YF<|YG t a):∀(f:Nat) {ρ:Ren} {w:World} {s s9:AS} {a:Act} {fr:AF} {x9:bq},Fr ρ fr b a->At B ρ s fr.nt fr.tmps w a->dA s.nx s9.nx ρ->
 nz P YG f fr s= .ok x9 s9->lR P B ρ s s9 w fr b cs (lone (b.atR a fr.todo) cs w) x9
 |0,ρ,w,s,s9,a,fr,x9,bC,ax,hf,h=>by cases h
 |f+1,ρ,w,s,s9,a,fr,x9,bC,ax,hf,h=>by
  have on:∀{s2:AS} {aO:AF},nz P YG f aO s2= .ok x9 s9->bB s2->s.nx<=s2.nx->lR P B ρ s s2 w fr b cs (lone (b.atR a fr.todo) cs w) (.go aO)->lR P B ρ s s9 w fr b cs (lone (b.atR a fr.todo) cs w) x9:=fun h2 dz kX w1=>w1.JF bC kX ((YF.nz P hl f _).le dz h2) fun σ a' w' e1 Bn Bo=>R6 bH hc hl f Bn Bo (hf.next kX e1) h2;unfold nz at h;cases e:As fr with
  |none=>
   rw[e] at h;obtain⟨x,s2,e1,h3⟩:=M.aN h;have dz:=(YF.ja P hl fr).cm ax.cm e1;have kX:=(YF.ja P hl fr).le ax.cm e1;cases x with
   |go aO=>exact on h3 dz kX<|EK bH hc hl bC ax (hf.sub (Nat.le_refl _)<|(YF.nz P hl f aO).le dz h3) e1
   |leave aO j=>obtain⟨rfl,rfl⟩:=bA h3;exact EK bH hc hl bC ax hf e1
  |some q=>
   obtain⟨it,o,ops,rest,k⟩:=q;obtain⟨id,oz,me,BS,ho⟩:=Rz e;rw[e] at h;obtain⟨x,s2,e1,h3⟩:=M.aN h;obtain⟨n,ob⟩:=x;obtain⟨h1,h2⟩:=RO e1;obtain⟨hx,hg,hh,cr⟩:=fU h2;have dz:bB s2:=(YF.bt n).cm ax.cm h2;have ht:n<top:=Nat.lt_of_lt_of_le hx ax.cm.nx;have hd:∀c,o.op≠ .defer c:=fun c q=>by rw[ho] at q;cases q
   cases ob with
   |iter m es ex left cur=>
    obtain⟨o6,fq,u⟩:=ax.rel.iter n m es ex left cur ht hg;obtain⟨bn,N,hn,pA⟩:=u.next (P:=P) o.type;have GU:VR ρ (.ptr<|some (n,0))<|a.eval it:=CJ ax.tr ax.g h1;have D6:a.eval it= .pointer (some ⟨bn,0,none⟩):=by simp only[VR] at GU;obtain⟨b',N',q1,q2⟩:=GU;rw[hn] at q1;cases q1;exact q2
    have FT:∀v w',(Instr.next (.pointer<|some ⟨bn,0,none⟩) false o.type).run P w= .ok v w'->(execOp a.eval o).run P w= .ok (.value v) w':=by intro v w' q;simp only[execOp,ho,D6,Sem.run_bind,q,Result.andThen_ok,Sem.run_pure]
    obtain⟨_,_,_,hB⟩:=ax.rel.block ht hg hn;cases left with
    |nil=>
     obtain⟨aO,s3,e3,h4⟩:=M.aN h3;have qu:(Instr.next (.pointer<|some ⟨bn,0,none⟩) false o.type).run P w= .ok (.tuple #[.bool false]) w:=by
      rcases pA with⟨_,q⟩|⟨x,r,v1,v2,w',q,_⟩
      ·exact q
      ·cases q
     have jo:=(YF.nu P hl fr n m es ex o ops rest k).cm dz e3;have BR:=(YF.nu P hl fr n m es ex o ops rest k).le dz e3;have Qn:=(YF.nz P hl f aO).le jo h4;refine on h4 jo aj ?_;unfold nu at e3;obtain⟨u1,s4,i1,i2⟩:=M.aN e3;obtain⟨u2,s5,i3,i4⟩:=M.aN i2;obtain⟨t1,s6,i5,i6⟩:=M.aN i4;obtain⟨t2,s7,i7,i8⟩:=M.aN i6;obtain⟨rfl,rfl⟩:=bA i8;obtain⟨i9,rfl⟩:=gT i5;obtain⟨_,_,_,j1,j2⟩:=jx i1;obtain⟨_,_,_,j3,j4⟩:=jx i3;have BT:bB s6:=(YF.bJ m _).cm ((YF.bJ n _).cm dz i1) i3;have Bq:Rel B ρ s6.h w:=by rw[j3,j1,hh];exact ax.rel.WD ht hg
     have BU:VR ρ (.tuple [.bool false])<|.tuple #[.bool false]:=by simp only[VR,ay];exact⟨_,rfl,_,_,rfl,rfl,rfl⟩
     obtain⟨q1,q2⟩:=Cy (a:=a) ax.tr ax.nt i9 BU;exact HA hc hl bC oz me BS hd (FT _ _ qu) (cw.refl _ _) ⟨q1,Bq,ax.g,ax.nt,BT⟩ (by rw[j4,j2,cr]) (by rw[j4,j2,cr];exact hf.sub (Nat.le_refl _) Qn) i7
    |cons y ys=>
     cases ys with
     |cons _ _=>cases h3
     |nil=>
      obtain⟨aO,s3,e3,h4⟩:=M.aN h3;rcases pA with⟨q,_⟩|⟨x,r,v1,v2,w',iu,D9,rO,qu,GV,hblk,Qo⟩
      ·cases q
      ·obtain⟨rfl,rfl⟩:x=y/\r=[]:=by simpa[xw] using iu
       have jo:=(YF.ny P hl fr n (.iter m es ex []<|some x) o ops rest k<|.tuple [.bool true,x.1,x.2]).cm dz e3;have BR:=(YF.ny P hl fr n (.iter m es ex []<|some x) o ops rest k<|.tuple [.bool true,x.1,x.2]).le dz e3;have Qn:=(YF.nz P hl f aO).le jo h4;refine on h4 jo aj ?_;unfold ny at e3;obtain⟨u1,s4,i1,i2⟩:=M.aN e3;obtain⟨t1,s6,i5,i6⟩:=M.aN i2;obtain⟨t2,s7,i7,i8⟩:=M.aN i6;obtain⟨rfl,rfl⟩:=bA i8;obtain⟨i9,rfl⟩:=gT i5;obtain⟨_,_,_,j1,j2⟩:=jx i1;have BT:bB s6:=(YF.bJ n _).cm dz i1;have Bq:Rel B ρ s6.h w':=by rw[j1,hh];exact ax.rel.Vl ht hg hn GV hblk Qo
       have BU:VR ρ (.tuple [.bool true,x.1,x.2])<|.tuple #[.bool true,v1,v2]:=by simp only[VR,ay];exact⟨_,rfl,_,_,rfl,rfl,_,_,rfl,D9,_,_,rfl,rO,rfl⟩
       obtain⟨q1,q2⟩:=Cy (a:=a) ax.tr ax.nt i9 BU;exact HA hc hl bC oz me BS hd (FT _ _ qu) (GV.below<|hB rfl) ⟨q1,Bq,ax.g,ax.nt,BT⟩ (by rw[j2,cr]) (by rw[j2,cr];exact hf.sub (Nat.le_refl _) Qn) i7
   |_=>cases h3
end
end Go.Rn
namespace Go.Rn
open Go.RowKit
variable {x:AV} {vs:Array Value} {args:List AV} {u:Nat} {j:Option Code} {fn:Func} {body:Code}
section
variable {P:Program} {B:aJ} {ρ:Ren} {w:World} {s s1:AS} {YG:aK}
theorem Ht(hv:ay ρ args vs.toList)(n:Nat)(hn:max n args.length<=top):TR ρ (max n args.length) (dt args)<|vs++Array.replicate (n - vs.size) undef:=by
 have hlen:=hv.length;simp only[Array.length_toList] at hlen;refine⟨by simp;omega,fun i x hx=>?_⟩;unfold dt at hx;rw[Tr.sq _ _ _ _ aj] at hx;by_cases h:i<args.length
 ·rw[if_pos aj,Nat.sub_zero] at hx;obtain⟨v,h1,h2⟩:=hv.get i x hx;rw[Array.getD_eq_getD_getElem?,Array.getElem?_append_left aj];rw[Array.getElem?_toList] at h1;rw[h1];exact h2
 ·rw[if_neg aj,Tr.get_nil] at hx;cases hx
def I3:List AV->AV
 |[v]=>v
 |l=>.tuple l
def oq:List Value->Value
 |[v]=>v
 |l=>.tuple l.toArray
theorem Mn:∀{rs:List AV} {us:List Value},ay ρ rs us->VR ρ (I3 rs) (oq us)
 |[],us,h=>by simp only[ay] at h;subst h;simp only[I3,oq,VR,ay];exact⟨_,rfl,rfl⟩
 |[v],us,h=>by simp only[ay] at h;obtain⟨u,KO,rfl,g1,rfl⟩:=h;exact g1
 |v::v2::rs,us,h=>by simp only[ay] at h;obtain⟨u,KO,rfl,g1,u2,us2,rfl,g3,g4⟩:=h;simp only[I3,oq,VR,ay];exact⟨_,rfl,u,_,rfl,g1,u2,us2,rfl,g3,g4⟩
theorem LX{rs:List ResultVar}{fr:AF}(h:finish P rs fr j s= .ok x s1):
 (j=none\/j=some .ret)/\∃u s4 vs,qT fr.defers s= .ok u s4/\sr P fr.tmps rs s4= .ok vs s1/\x=I3 vs:=by
 unfold finish at h;obtain⟨u,s3,h5,h6⟩:=M.aN h;have Ky:s3=s/\(j=none\/j=some .ret):=by
  cases j with
  |none=>exact⟨(bA (show M.pure () s= .ok u s3 from h5)).2,.inl rfl⟩
  |some c=>cases c<;>first|exact⟨(bA (show M.pure () s= .ok u s3 from h5)).2,.inr rfl⟩|cases h5
 obtain⟨hs,hj⟩:=Ky;clear h5 h;subst hs;obtain⟨u2,s4,h7,h8⟩:=M.aN h6;obtain⟨vs,s5,h9,gE⟩:=M.aN h8;refine⟨hj,u2,s4,vs,h7,?_⟩;cases vs with
 |nil=>obtain⟨rfl,rfl⟩:=bA (show M.pure (.tuple []) s5= .ok x s1 from gE);exact⟨h9,rfl⟩
 |cons v rs=>
  cases rs with
  |nil=>obtain⟨rfl,rfl⟩:=bA (show M.pure v s5= .ok x s1 from gE);exact⟨h9,rfl⟩
  |cons v2 rs=>obtain⟨rfl,rfl⟩:=bA (show M.pure (.tuple<|v::v2::rs) s5= .ok x s1 from gE);exact⟨h9,rfl⟩
theorem abI{b:Frame}{a:Act}{cs:List Frame}(bH:P.follows .mixedOrders=true)(hc:fQ P B YG)(hl:∀t a,YF<|YG t a){af:AF}{x:bq}(bC:Fr ρ af b a)(ax:At B ρ s af.nt af.tmps w a)(hf:dA s.nx s1.nx ρ)(h:zm P YG u af s= .ok x s1):lR P B ρ s s1 w af b cs (lone (b.atR a af.todo) cs w) x:=by
 unfold zm at h;cases e:Nat.beq u 1 with
 |true=>simp only[e] at h;exact R6 bH hc hl _ bC ax hf h
 |false=>simp only[e] at h;exact Mm bH hc hl _ _ bC ax hf h
theorem Ro{g:FuncId}{fr:AF}{s2 s3:AS}(cj:P.funcs[g]? =some fn)(ct:fn.body=some body)(zP:bB s2)(hw:∀cs:List Frame,lR P B ρ s s2 w ⟨g,dt args,max fn.ntmps args.length,[.code body],[],none⟩ {(default:Frame) with fn:=g,kind:=.normal,roundOf:=none} cs
 (lone (({(default:Frame) with fn:=g,kind:=.normal,roundOf:=none}:Frame).atR {tmps:=vs++Array.replicate (fn.ntmps - vs.size) undef,defers:=[]} [.code body]) cs w) (.leave fr j))(pI:finish P fn.results.toList fr j s2= .ok x s3):Calls P g vs w fun e w'=>∃v,e= .returned v/\ki B ρ s s3 w x v w':=by
 intro cs;let b:Frame:={(default:Frame) with fn:=g,kind:=.normal,roundOf:=none};let a:Act:={tmps:=vs++Array.replicate (fn.ntmps - vs.size) undef,defers:=[]};have xf:Frame.enter P g vs .normal=b.atR a [.code body]:=by simp[Frame.enter,Frame.atR,cj,ct,b,a]
 obtain⟨σ,a',w',e1,e2,e3,e4,⟨e5,Ea,al0⟩,e6,e7,e8⟩:=hw cs;obtain⟨hj,u2,s4,rs,h7,h9,hx⟩:=LX pI;have o7:bB s4:=(YF.qT _).cm zP h7;have pR:Leaves j fr.todo:=e7;obtain⟨d1,d2,w2,d3,d4,d5⟩:=Hs (P:=P) (fr:=b) (cs:=cs) zP e2.rel e3 h7;obtain⟨f1,f2,us,f3,f4⟩:=Ho (P:=P) (w:=w2) e2.tr o7 d3 h9;have Gh:Steps P (lone (b.atR a' fr.todo) cs w')<|lone {b.atR a' fr.todo with mode:=.returning} cs w':=by
  rcases hj with rfl|rfl
  ·have e:fr.todo=[]:=pR;rw[e];exact .one<|stepR_end rfl
  ·obtain⟨k,e⟩:=pR;rw[e];exact .one<|stepR_ret rfl
 have xy:=d5 {b.atR a' fr.todo with mode:=.returning} cs jF rfl;have lA:(results fn a'.tmps).run P w2= .ok (oq us) w2:=by
  unfold results;rw[Array.mapM_eq_mapM_toList];simp only[Sem.run_bind,map_eq_pure_bind,Sem.run_pure];refine Eq.trans (congrArg (fun r:Result (List Value)=>(r.andThen fun a w'=>Result.ok a.toArray w').andThen fun a w'=>Result.ok (if h:a.size=1 then a[0] else Value.tuple a) w') f3) ?_;have:∀l:List Value,(Result.ok (if h:l.toArray.size=1 then l.toArray[0] else Value.tuple l.toArray) w2:Result Value)= .ok (oq l) w2:=by
   intro l
   match l with
   |[]=>rfl
   |[v]=>rfl
   |v::v2::l=>simp[oq]
  exact this us
 refine⟨.returned<|oq us,w2,{b.atR a' fr.todo with mode:=.returning,defers:=[]},⟨_,rfl,?_⟩,?_,rfl,?_⟩
 ·exact⟨σ,by rw[show s3.nx=s2.nx by rw[f2,d1]];exact e1,by rw[hx];exact Mn f4,by rw[f1];exact d3,e4.trans d4⟩
 ·rw[xf];exact Steps.trans e8<|Steps.trans Gh xy
 ·exact⟨rfl,rfl,rfl,fn,cj,lA⟩
theorem abJ(bH:P.follows .mixedOrders=true)(hc:fQ P B YG)(hl:∀t a,YF<|YG t a){f:FuncId}(cj:P.funcs[f]? =some fn)(ct:fn.body=some body)(dE:(fn.name == "runtime.NumGoroutine")=false)(eN:iz body)(fi:bB s)(r:Rel B ρ s.h w)(hg:gC ρ)(hf:dA s.nx s1.nx ρ)(h:Dh P u f fn.ntmps fn.results.toList body YG args s= .ok x s1)(hv:ay ρ args vs.toList):jg P ((callFunc f vs).run P w)<|ki B ρ s s1 w x:=by
 have bG:(callFunc f vs).run P w= .ok (.enter f vs) w:=by
  have FV:(program).run P w= .ok P w:=rfl;have hn:fn.name≠ "runtime.NumGoroutine" :=by simpa using dE
  simp only[callFunc,Sem.run_bind,FV,Result.andThen_ok,cj,dE,ct];simp
 rw[bG];unfold Dh at h;obtain⟨h1,h2⟩:=cV h;have oS:=aL.1 h1;obtain⟨y,s2,h3,h4⟩:=M.aN h2;cases y with
 |go fr=>cases h4
 |leave fr j=>have GW:finish P fn.results.toList fr j s2= .ok x s1:=h4;have dz:=(YF.zm P hl u ⟨f,dt args,max fn.ntmps args.length,[.code body],[],none⟩).cm fi h3;have BP:=(YF.finish P fn.results.toList fr j).le dz GW;exact Ro cj ct dz (fun cs=>abI (b:={(default:Frame) with fn:=f,kind:=.normal,roundOf:=none}) (a:={tmps:=vs++Array.replicate (fn.ntmps - vs.size) undef,defers:=[]}) (cs:=cs) bH hc hl ⟨rfl,rfl,trivial,rfl,.cons eN .nil⟩ ⟨Ht hv _ oS,r,hg,oS,fi⟩ (hf.sub (Nat.le_refl _) BP) h3) GW
structure bS (P:Program):Prop where
 mixed:P.follows .mixedOrders=true
 code:∀(f:FuncId) (fn:Func) (body:Code),P.funcs[f]? =some fn->fn.body=some body->iz body
def Vm(_:Program)(_:aJ)(_:FuncId->Nat):Prop:=True
theorem Tq(hP:bS P){j0:FuncId->Nat}(hw:Vm P B j0):∀(n:Nat),fQ P B (zn P j0 n)
 |0=>⟨(fun f args x s s1 ρ w vs _ _ _ _ h _=>by cases h),(fun l b N args x s s1 ρ w vs _ _ _ _ h _ _=>by cases h),(fun n o k x s s1 ρ w _ _ h=>by cases h)⟩
 |n+1=>by
  have ih:=Tq hP hw n;refine⟨fun f args x s s1 ρ w vs fi r hg hf h hv=>?_,fun l b N args x s s1 ρ w vs fi r hg hf h hv hl=>aaA hP.mixed ih (HD P j0 n) fi r hg hf h hv hl,fun n o k x s s1 ρ w _ _ h=>by cases h⟩;have h':(GI P j0 f).val (zn P j0 n) args s= .ok x s1:=h;unfold GI at h';cases e1:P.funcs[f]? with
  |none=>rw[e1] at h';cases h'
  |some fn=>
   rw[e1] at h';cases e2:fn.body with
   |none=>simp only[e2] at h';cases h'
   |some body=>
    simp only[e2] at h';cases e3:(fn.name == "runtime.NumGoroutine") with
    |true=>simp only[e3] at h';cases h'
    |false=>simp only[e3] at h';exact abJ hP.mixed ih (HD P j0 n) e1 e2 e3 (hP.code f fn body e1 e2) fi r hg hf h' hv
end
end Go.Rn
namespace Go.Rn
theorem sameKey_eq{a b:AV}(h:sameKey a b=some true):a=b:=by
 unfold sameKey at h;split at h<;>first|(cases h;done)|skip
 ·rename_i k x k' y;cases hk:decide (k=k') with
  |false=>rw[hk] at h;cases h
  |true=>
   rw[hk] at h;injection h with h
   have e1:=of_decide_eq_true hk;have e2:x=y:=by simpa using h
   rw[e1,e2]
 ·rename_i x y;injection h with h
  obtain⟨x⟩:=x;obtain⟨y⟩:=y;have e:x=y:=by have h':(x == y)=true:=h;exact eq_of_beq h'
  rw[e]
 ·rename_i x y;injection h with h
  have e:x=y:=by simpa using h
  rw[e]
end Go.Rn

namespace Go.Rn
open Go.RowKit
noncomputable section
def dV(P:Program)(YG:aK)(k:Nat):AF->M bq:= @Nat.rec (fun _=>AF->M bq) (fun fr=>M.pure<|.go fr) (fun _ ih fr=>(ja P YG fr).bind fun x=> @bq.rec (fun _=>M bq) ih (fun fr j=>M.pure<|.leave fr j) x) k
def sC:List Nat->Code->Code
 |[],c=>c
 |0::l,.seq a _=>sC l a
 |_::l,.seq _ b=>sC l b
 |0::l,.cond _ a _=>sC l a
 |_::l,.cond _ _ b=>sC l b
 |_::l,.block _ b=>sC l b
 |_::l,.loop b=>sC l b
 |_::l,.scope b=>sC l b
 |0::l,.rangeFunc _ _ a _=>sC l a
 |_::l,.rangeFunc _ _ _ b=>sC l b
 |_::_,c=>c
def getAll(h:Tr ae):List Nat->List (Option ae)
 |[]=>[]
 |n::ns=>h.get n::getAll h ns
def Ts:List (Option ae)->Bool
 |[]=>true
 |none::l=>Ts l
 |some o::l=>match o.plain with
  |true=>Ts l
  |false=>false
def Oc(m:Nat):List Nat->Bool
 |[]=>true
 |n::l=>match Nat.blt n m with
  |true=>Oc m l
  |false=>false
end
theorem LY{m:Nat}:∀{l:List Nat},Oc m l=true->∀n∈l,n<m
 |[],_,n,h=>by cases h
 |a::l,hp,n,h=>by
  unfold Oc at hp;split at hp
  ·rename_i e;rcases List.mem_cons.1 h with rfl|h
   ·rw[←blt_eq];exact e
   ·exact LY hp n h
  ·cases hp
section
variable {P:Program} {B:aJ} {ρ:Ren} {w:World} {s s1:AS} {YG:aK} {b:Frame} {a:Act} {cs:List Frame}
theorem YF.dV(P:Program){YG:aK}(bG:∀t a,YF<|YG t a):∀(k:Nat) (fr:AF),YF (dV P YG k fr)
 |0,fr=>YF.pure _
 |k+1,fr=>by
  refine YF.bind (YF.ja P bG fr) fun x=>?_;cases x with
  |go fr=>exact YF.dV P bG k fr
  |leave fr j=>exact YF.pure _
theorem Ib(bH:P.follows .mixedOrders=true)(hc:fQ P B YG)(hl:∀t a,YF<|YG t a):∀(k:Nat) {ρ:Ren} {w:World} {s s1:AS} {a:Act} {af:AF} {x:bq},Fr ρ af b a->At B ρ s af.nt af.tmps w a->dA s.nx s1.nx ρ->
 dV P YG k af s= .ok x s1->lR P B ρ s s1 w af b cs (lone (b.atR a af.todo) cs w) x
 |0,ρ,w,s,s1,a,af,x,bC,ax,hf,h=>by obtain⟨rfl,rfl⟩:=bA (show M.pure (.go af) s= .ok x s1 from h);exact Cr bC ax rfl rfl ⟨rfl,rfl,rfl⟩ bC.ok trivial<|Steps.refl _ _
 |k+1,ρ,w,s,s1,a,af,x,bC,ax,hf,h=>by
  obtain⟨y,s2,h1,h2⟩:=M.aN (show((ja P YG af).bind fun x=> @bq.rec (fun _=>M bq) (dV P YG k) (fun fr j=>M.pure<|.leave fr j) x) s= .ok x s1 from h);have kX:=(YF.ja P hl af).le ax.cm h1;have dz:=(YF.ja P hl af).cm ax.cm h1;cases y with
  |go fr=>have rP:dV P YG k fr s2= .ok x s1:=h2;have pP:=(YF.dV P hl k fr).le dz rP;have w1:=EK (b:=b) (cs:=cs) bH hc hl bC ax (hf.sub (Nat.le_refl _) pP) h1;exact w1.JF bC kX pP fun σ a' w' e1 Bn Bo=>Ib bH hc hl k Bn Bo (hf.next kX e1) rP
  |leave fr j=>obtain⟨rfl,rfl⟩:=bA (show M.pure (.leave fr j) s2= .ok x s1 from h2);exact EK bH hc hl bC ax hf h1
theorem acX{h:Tr ae}{nx:Nat}(hb:Nat.ble nx top=true):bB ⟨h,nx,0,[],[]⟩:=⟨Nat.zero_le _,aL.1 hb⟩
end
end Go.Rn
namespace Go.Rn
open Go.RowKit
variable {J:Nat} {v:Value} {b a:AV}
structure Start (J:Nat) (h0:Tr ae) (ρ:Ren) (w:World):Prop where
 g:gC ρ
 free:∀k,J<=k->ρ k=none
 is:∀n o,n<top->h0.get n=some o->o.mJ=true/\∃b N o',ρ n=some (b,N)/\w.heap[b]? =some o'/\OR ρ N o o'
theorem Start.rel{h0:Tr ae}{ρ:Ren}{w:World}(S:Start J h0 ρ w)(ht:J<=top):Rel (aev w) ρ h0 w:=by
 refine⟨fun n o hn h=>?_,fun n m o p b N M hn hm h1 h2 cP _ _=>?_,fun n m es ex left cur hn h=>?_,fun _ hk=>hk,fun i j m es ex left cur gY iU iH iJ hi _ h1 _=>?_,fun n b sh e=>absurd (S.free _<|Nat.le_trans ht<|gb n b sh) e,tY.no (fun n k v hn hg=>by have:=(S.is n _ hn hg).1;cases this) ⟨Nat.le_refl _,fun n o hn hg _=>by obtain⟨_,b,N,o',h1,h2,_⟩:=S.is n o hn hg;exact⟨b,N,h1,ib h2⟩⟩⟩
 ·obtain⟨hr,b,N,o',h1,h2,h3⟩:=S.is n o hn h;have hr:=ae.kg hr;exact⟨b,N,o',h1,h2,h3,fun q=>by rw[hr] at q;cases q⟩
 ·have e1:=ae.kg (S.is n o hn h1).1;have e2:=ae.kg (S.is m p hm h2).1;rcases cP with q|q
  ·rw[e1] at q;cases q
  ·rw[e2] at q;cases q
 ·have:=(S.is n _ hn h).1;cases this
 ·have:=(S.is i _ hi h1).1;cases this
section
variable {P:Program} {B:aJ} {ρ:Ren} {w:World} {s s1:AS} {YG:aK}
end
noncomputable section
def DD(J:Nat):AV->AV->Bool
 | .nilFunc,.nilFunc=>true
 | .func (.func f) [] [],.func (.func g) [] []=>Nat.beq f g
 | .slice none 0 (.known 0),.slice none 0 (.known 0)=>true
 | .U a b c,.U d e f=>and (Nat.beq a d)<|and (Nat.beq b e)<|and (Nat.beq c f)<|and (Nat.blt d J)<|Nat.blt d top
 |x,y=>match sameKey x y with
  |some true=>true
  |_=>false
def Fg(J:Nat)(t u:Tr AV):Nat->Bool
 |0=>true
 |i+1=>match t.get i,u.get i with
  |some a,some b=>and (DD J a b)<|Fg J t u i
  |_,_=>false
def ou(J:Nat):ae->ae->Bool
 | .ro m t,.ro n u=>and (Nat.beq m n)<|Fg J t u n
 | .th m t,.th n u=>and (Nat.beq m n)<|Fg J t u n
 |_,_=>false
def fG(J:Nat)(h0:Tr ae):List Nat->M Unit
 |[]=>M.pure ()
 |n::ns=>(bt n).bind fun o=>aB (h0.get n) fun p=>aG (ou J o p) <| fG J h0 ns
end
theorem YF.fG(J:Nat)(h0:Tr ae):∀ns,YF (fG J h0 ns)
 |[]=>YF.pure _
 |n::ns=>YF.bind (YF.bt n) fun _=>YF.aB fun _ _=>YF.aG fun _=>YF.fG J h0 ns
theorem Tt{ρ:Ren}(h:DD J a b=true)(hv:VR ρ a v):VR (fun k=>if k<J then ρ k else none) b v:=by
 unfold DD at h;split at h
 ·simp only[VR] at hv ⊢;exact hv
 ·rename_i f g;have:f=g:=ey.1 h;subst this;simp only[VR,ay] at hv ⊢;exact hv
 ·simp only[VR] at hv ⊢;exact hv
 ·obtain⟨q1,q2⟩:=and_true.1 h;obtain⟨q3,q4⟩:=and_true.1 q2;obtain⟨q5,q6⟩:=and_true.1 q4;have e1:=ey.1 q1;have e2:=ey.1 q3;have e3:=ey.1 q5;subst e1;subst e2;subst e3;obtain⟨q6,q7⟩:=and_true.1 q6;have bZ:=(blt_eq _ _).mp q6;have eW:=(blt_eq _ _).mp q7;simp only[VR] at hv ⊢;rcases hv with hv|⟨b,sh,c,h1,h2⟩
  ·exact .inl hv
  ·exact .inr ⟨b,sh,c,.inl ⟨by omega,(if_pos bZ).trans<|h1.low aj⟩,h2⟩
 ·split at h
  ·rename_i e;have:=sameKey_eq e;subst this;unfold sameKey at e;split at e<;>first|(cases e;done)|(simp only[VR] at hv ⊢;exact hv)
  ·cases h
theorem LO{J:Nat}{t u:Tr AV}:∀{n:Nat},Fg J t u n=true->∀i,i<n->∃a b,t.get i=some a/\u.get i=some b/\DD J a b=true
 |0,_,i,hi=>by omega
 |n+1,h,i,hi=>by
  unfold Fg at h;split at h
  ·rename_i a b e1 e2;obtain⟨q1,q2⟩:=and_true.1 h;by_cases q:i=n
   ·subst q;exact⟨a,b,e1,e2,q1⟩
   ·exact LO q2 i aj
  ·cases h
theorem R7{ρ:Ren}(h:DD J a b=true)(_:VR ρ a v):b.bR=true:=by
 unfold DD at h;split at h
 ·rfl
 ·rfl
 ·rfl
 ·rfl
 ·split at h
  ·rename_i e;have:=sameKey_eq e;subst this;unfold sameKey at e;split at e<;>first|(cases e;done)|rfl
  ·cases h
theorem ZR{N:Nat}{ρ:Ren}{o p:ae}{o':Obj}(h:ou J o p=true)(hO:OR ρ N o o'):p.mJ=true/\OR (fun k=>if k<J then ρ k else none) N p o':=by
 unfold ou at h;split at h
 ·rename_i m t n u;obtain⟨q1,q2⟩:=and_true.1 h;have e1:=ey.1 q1;subst e1;obtain⟨c,e,fr,rfl,h1,h2,row⟩:=hO;refine⟨rfl,c,e,fr,rfl,h1,h2,fun i hi=>?_⟩;obtain⟨x,v,a1,a2,a3,a4⟩:=row i hi;obtain⟨a,b,b1,b2,b3⟩:=LO q2 i hi;rw[a1] at b1;cases b1;exact⟨b,v,b2,R7 b3 a4,a3,Tt b3 a4⟩
 ·rename_i m t n u;obtain⟨q1,q2⟩:=and_true.1 h;have e1:=ey.1 q1;subst e1;obtain⟨c,e,fr,rfl,row⟩:=hO;refine⟨rfl,c,e,fr,rfl,fun i hi=>?_⟩;obtain⟨x,v,a1,a2,a3,a4⟩:=row i hi;obtain⟨a,b,b1,b2,b3⟩:=LO q2 i hi;rw[a1] at b1;cases b1;exact⟨b,v,b2,R7 b3 a4,a3,Tt b3 a4⟩
 ·cases h
theorem uC{J:Nat}{h0:Tr ae}:∀{ns:List Nat} {s s1:AS} {u:Unit},fG J h0 ns s= .ok u s1->s1.h=s.h/\s1.nx=s.nx/\∀n∈ns,n<s.nx/\∃o p,s.h.get n=some o/\h0.get n=some p/\ou J o p=true
 |[],s,s1,u,h=>by obtain⟨_,rfl⟩:=bA (show M.pure () s= .ok u s1 from h);exact⟨rfl,rfl,fun n hn=>by cases hn⟩
 |m::ns,s,s1,u,h=>by
  obtain⟨o,s2,h1,h2⟩:=M.aN (show((bt m).bind fun o=>aB (h0.get m) fun p=>aG (ou J o p) <| fG J h0 ns) s= .ok u s1 from h);obtain⟨a1,a2,a3,a4⟩:=fU h1;obtain⟨p,h3,h4⟩:=bu h2;obtain⟨h5,h6⟩:=cV h4;obtain⟨b1,b2,b3⟩:=uC h6;refine⟨b1.trans a3,b2.trans a4,fun n hn=>?_⟩;rcases List.mem_cons.1 hn with rfl|hn
  ·exact⟨a1,o,p,a2,h3,h5⟩
  ·obtain⟨c1,q1,q2,c2,c3,c4⟩:=b3 n hn;exact⟨by rw[←a4];exact c1,q1,q2,by rw[←a3];exact c2,c3,c4⟩
end Go.Rn
namespace Go.Rn
open Go.RowKit
section
variable {P:Program} {B:aJ} {ρ:Ren} {w:World} {s s1:AS} {YG:aK}
end
end Go.Rn
namespace Go.Rn
open Go.RowKit
noncomputable section
end
section
variable {P:Program} {YG:aK}
end
end Go.Rn
namespace Go.Rn
open Go.RowKit
variable {k o n:Nat} {x:AV} {aO:AF} {f:FuncId} {vs:Array Value} {j:Option Code} {fn:Func} {body:Code} {args:List AV} {F:Nat->Option (List AV)}
noncomputable section
def bq.Uo:bq->Bool
 | .go _=>false
 | .leave _ _=>true
def pq(P:Program)(YG:aK)(fr:AF):M bq:=fun s=> @dite (R bq) (∃k,∃x s1,dV P YG k fr s= .ok x s1/\x.Uo=true) (Classical.propDecidable _) (fun h=>dV P YG h.choose fr s) fun _=>.bad
def uV(P:Program)(f ntmps:Nat)(rs:List ResultVar)(body:Code)(YG:aK)(args:List AV):M AV:=
 aG (Nat.ble (max ntmps args.length) top) <|
 (pq P YG ⟨f,dt args,max ntmps args.length,[.code body],[],none⟩).bind fun st=> @bq.rec (fun _=>M AV) (fun _=>fail) (fun fr j=>finish P rs fr j) st
def wF(P:Program)(YG:aK)(l:Nat)(args:List AV):M AV:=(getLoop l).bind fun o=>match o with
 | .loop _ _ fn t nt ps a b _=>
  aG (and (Nat.beq args.length ps.length)<|ps.all fun p=>Nat.blt p nt) <|
  (pq P YG ⟨fn,jw ps args t,nt,[.code a,.beginRound,.code b],[],some l⟩).bind fun st=> @bq.rec (fun _=>M AV) (fun _=>fail) (fun _ j=>endRound l j) st
 |_=>fail
abbrev Sp:=FuncId->Option (aK->List AV->M AV)
def jH(P:Program)(sp:Sp)(f:FuncId):aK->List AV->M AV:=
 match sp f with
 |some m=>m
 |none=>match P.funcs[f]? with
  |none=>fun _ _=>fail
  |some fn=>match fn.body with
   |none=>fun _ _=>fail
   |some body=>match fn.name == "runtime.NumGoroutine" with
    |true=>fun _ _=>fail
    |false=>uV P f fn.ntmps fn.results.toList body
def qw(F:Nat->Option (List AV))(n o k:Nat):M AV:=aB (F n) fun l=>aG (Nat.ble (o+k) l.length) <| M.pure<|.agg<|(l.drop o).take k
def bc(P:Program)(sp:Sp)(F:Nat->Option (List AV)):Nat->aK
 |0=>fun t _=>match t with
  | .row n o k=>qw F n o k
  |_=>fail
 |n+1=>fun t args=>match t with
  | .fn f=>jH P sp f (bc P sp F n) args
  | .round l=>wF P (bc P sp F n) l args
  | .row n o k=>qw F n o k
end
section
variable {P:Program} {B:aJ} {ρ:Ren} {w:World} {s s1:AS} {YG:aK} {b:Frame} {a:Act} {cs:List Frame}
theorem SK{fr:AF}:dV P YG (k+1) fr s=((ja P YG fr).bind fun x=> @bq.rec (fun _=>M bq) (dV P YG k) (fun fr j=>M.pure<|.leave fr j) x) s:=rfl
theorem AD{fr:AF}(h:ja P YG fr s= .ok (.go aO) s1):dV P YG (k+1) fr s=dV P YG k aO s1:=by rw[SK,M.bK h]
theorem abK{fr:AF}(h:ja P YG fr s= .ok (.leave aO j) s1):dV P YG (k+1) fr s= .ok (.leave aO j) s1:=by rw[SK,M.bK h];rfl
theorem Mo:∀{k k':Nat} {fr aO:AF} {j:Option Code} {s s1:AS},dV P YG k fr s= .ok (.leave aO j) s1->k<=k'->dV P YG k' fr s= .ok (.leave aO j) s1
 |0,_,_,_,_,_,_,h,_=>by cases h
 |k+1,0,_,_,_,_,_,_,hk=>by omega
 |k+1,k'+1,fr,aO,j,s,s1,h,hk=>by
  obtain⟨y,s2,h1,h2⟩:=M.aN (show((ja P YG fr).bind fun x=> @bq.rec (fun _=>M bq) (dV P YG k) (fun fr j=>M.pure<|.leave fr j) x) s= .ok _ s1 from h);cases y with
  |go pS=>rw[AD h1];exact Mo (show dV P YG k pS s2=_ from h2) aj
  |leave pS j'=>rw[abK h1];exact h2
theorem HP{fr:AF}(h:dV P YG k fr s= .ok (.leave aO j) s1):pq P YG fr s= .ok (.leave aO j) s1:=by
 have hex:∃k,∃x s1,dV P YG k fr s= .ok x s1/\x.Uo=true:=⟨k,_,_,h,rfl⟩;unfold pq;rw[dif_pos hex];obtain⟨x,s2,h1,h2⟩:=hex.choose_spec;cases x with
 |go _=>cases h2
 |leave ks j2=>have e1:=Mo h1<|Nat.le_max_left hex.choose k;have e2:=Mo h<|Nat.le_max_right hex.choose k;rw[e1] at e2;rw[h1,e2]
theorem R8{fr:AF}{x:bq}(h:pq P YG fr s= .ok x s1):∃k aO j,x= .leave aO j/\dV P YG k fr s= .ok (.leave aO j) s1:=by
 unfold pq at h;split at h
 ·rename_i hex;obtain⟨y,s2,h1,h2⟩:=hex.choose_spec;cases y with
  |go _=>cases h2
  |leave ks j2=>rw[h1] at h;cases h;exact⟨_,ks,j2,rfl,h1⟩
 ·cases h
theorem YF.pq(P:Program){YG:aK}(hl:∀t a,YF<|YG t a)(fr:AF):YF<|pq P YG fr:=by intro s v s1 fi h;obtain⟨k,aO,j,rfl,h1⟩:=R8 h;obtain⟨dr,dw,d,al⟩:=YF.dV P hl k fr s _ s1 fi h1;refine⟨dr,dw,d,fun A m0 t ag hA=>?_⟩;obtain⟨t1,e1,e2⟩:=al A m0 t ag hA;exact⟨t1,HP e1,e2⟩
theorem YF.uV(P:Program)(f n:Nat)(rs:List ResultVar)(body:Code){YG:aK}(bG:∀t a,YF<|YG t a)(args:List AV):YF<|uV P f n rs body YG args:=
 YF.aG (fun _=>YF.bind (YF.pq P bG _) (fun x=>by
  cases x with
  |go fr=>exact YF.fail
  |leave fr j=>exact YF.finish P rs fr j))
theorem YF.wF(P:Program){YG:aK}(bG:∀t a,YF<|YG t a)(l:Nat)(args:List AV):YF<|wF P YG l args:=by
 unfold Rn.wF;refine YF.bind (YF.getLoop _) fun o=>?_;split
 ·exact YF.aG fun _=>YF.bind (YF.pq P bG _) (fun x=>by
   cases x with
   |go fr=>exact YF.fail
   |leave fr j=>exact YF.endRound l j)
 ·exact YF.fail
structure J9 (P:Program) (B:aJ) (sp:Sp):Prop where
 loc:∀f m,sp f=some m->∀YG:aK,(∀t a,YF<|YG t a)->∀args,YF<|m YG args
 Eb:∀f m,sp f=some m->∀YG:aK,fQ P B YG->(∀t a,YF<|YG t a)->∀(args:List AV) (x:AV) (s s1:AS) (ρ:Ren) (w:World) (vs:Array Value),bB s->Rel B ρ s.h w->gC ρ->dA s.nx s1.nx ρ->
  m YG args s= .ok x s1->ay ρ args vs.toList->jg P ((callFunc f vs).run P w) (ki B ρ s s1 w x)
theorem qZ{sp:Sp}{m:aK->List AV->M AV}(h:sp f=some m):jH P sp f=m:=by unfold jH;rw[h]
theorem MY{sp:Sp}(h:sp f=none)(cj:P.funcs[f]? =some fn)(ct:fn.body=some body)(dE:(fn.name == "runtime.NumGoroutine")=false):jH P sp f=uV P f fn.ntmps fn.results.toList body:=by unfold jH;simp only[h,cj,ct,dE]
theorem SL(sp:Sp)(f:FuncId):(∃m,sp f=some m/\jH P sp f=m)\/(jH P sp f=fun _ _=>fail)\/(∃fn body,P.funcs[f]? =some fn/\fn.body=some body/\(fn.name == "runtime.NumGoroutine")=false/\jH P sp f=uV P f fn.ntmps fn.results.toList body):=by
 cases e:sp f with
 |some m=>exact .inl ⟨m,rfl,qZ e⟩
 |none=>
  cases e1:P.funcs[f]? with
  |none=>refine .inr<|.inl ?_;unfold jH;simp only[e,e1]
  |some fn=>
   cases e2:fn.body with
   |none=>refine .inr<|.inl ?_;unfold jH;simp only[e,e1,e2]
   |some body=>
    cases e3:(fn.name == "runtime.NumGoroutine") with
    |true=>refine .inr<|.inl ?_;unfold jH;simp only[e,e1,e2,e3]
    |false=>exact .inr<|.inr ⟨fn,body,rfl,e2,e3,MY e e1 e2 e3⟩
theorem aaB(P:Program){sp:Sp}(hs:J9 P B sp)(f:FuncId){YG:aK}(hl:∀t a,YF<|YG t a)(args:List AV):YF<|jH P sp f YG args:=by
 rcases SL (P:=P) sp f with⟨m,e1,e2⟩|e|⟨fn,body,e1,e2,e3,e⟩
 ·rw[e2];exact hs.loc f m e1 YG hl args
 ·rw[e];exact YF.fail
 ·rw[e];exact YF.uV P _ _ _ _ hl _
theorem YF.qw(F:Nat->Option (List AV))(n o k:Nat):YF<|qw F n o k:=YF.aB fun _ _=>YF.aG fun _=>YF.pure _
theorem Co(P:Program){sp:Sp}(hs:J9 P B sp)(F:Nat->Option (List AV)):∀(n:Nat) (t:GG) (args:List AV),YF (bc P sp F n t args)
 |0,.fn _,_=>YF.fail
 |0,.round _,_=>YF.fail
 |0,.row n o k,_=>YF.qw F n o k
 |n+1,.fn f,args=>aaB P hs f (fun t a=>Co P hs F n t a) args
 |n+1,.round l,args=>YF.wF P (fun t a=>Co P hs F n t a) l args
 |_+1,.row n o k,_=>YF.qw F n o k
theorem Vn{ρ:Ren}{c:Array Value}:∀{l:List AV} {off:Nat},(∀(i:Nat) (x:AV),l[i]? =some x->∃v,c[off+i]? =some v/\VR ρ x v)->∃vs:List Value,vs.length=l.length/\ay ρ l vs/\∀(j:Nat) (v:Value),vs[j]? =some v->c[off+j]? =some v
 |[],off,_=>⟨[],rfl,by simp only[ay],fun j v h=>by simp at h⟩
 |x::l,off,h=>by
  obtain⟨v,h1,h2⟩:=h 0 x rfl;obtain⟨vs,g1,g2,g3⟩:=Vn (l:=l) (off:=off+1) (fun i y hy=>by obtain⟨u,k1,k2⟩:=h (i+1) y (by simpa using hy);exact⟨u,by rw[Nat.add_assoc,Nat.add_comm 1 i];exact k1,k2⟩);refine⟨v::vs,by simp[g1],by simp only[ay];exact⟨v,vs,rfl,h2,g2⟩,fun j u hj=>?_⟩;cases j with
  |zero=>simp at hj;subst hj;simpa using h1
  |succ j=>have:=g3 j u (by simpa using hj);rw[Nat.add_assoc,Nat.add_comm 1 j] at this;exact this
theorem abL(h:qw F n o k s= .ok x s1):s1=s/\∃l,F n=some l/\o+k<=l.length/\x= .agg ((l.drop o).take k):=by unfold qw at h;obtain⟨l,h1,h2⟩:=bu h;obtain⟨h3,h4⟩:=cV h2;obtain⟨rfl,rfl⟩:=bA h4;exact⟨rfl,l,h1,aL.1 h3,rfl⟩
theorem Tu(hF:B.F=F)(r:Rel B ρ s.h w)(h:qw F n o k s= .ok x s1):
 s1.h=s.h/\s1.nx=s.nx/\∀b sh,ρ (hn n b sh)≠none->∃l vs,x= .agg l/\vs.length=k/\ay ρ l vs/\∃c e fr,w.heap[b]? =some (.cells c e fr)/\∀(j:Nat) (v:Value),vs[j]? =some v->c[sh+o+j]? =some v:=by
 obtain⟨rfl,l,h1,h2,rfl⟩:=abL h;rw[←hF] at h1;refine⟨rfl,rfl,fun b sh hb=>?_⟩;obtain⟨_,l',c,e,fr,g1,g2,_,g4⟩:=r.fz n b sh hb;rw[h1] at g1;cases g1;obtain⟨vs,q1,q2,q3⟩:=Vn (ρ:=ρ) (c:=c) (l:=(l.drop o).take k) (off:=sh+o) (fun i y hy=>by
  have vU:l[o+i]? =some y:=by
   rw[List.getElem?_take] at hy;split at hy
   ·rw[List.getElem?_drop] at hy;exact hy
   ·cases hy
  obtain⟨v,k1,k2,_⟩:=g4 (o+i) y vU;exact⟨v,by rw[Nat.add_assoc];exact k1,VR.mono (Fv ρ) _ _ k2⟩)
 refine⟨_,vs,rfl,?_,q2,c,e,fr,g2,q3⟩;rw[q1,List.length_take,List.length_drop];omega
theorem R9(bH:P.follows .mixedOrders=true)(hc:fQ P B YG)(hl:∀t a,YF<|YG t a){af:AF}{x:bq}(bC:Fr ρ af b a)(ax:At B ρ s af.nt af.tmps w a)(hf:dA s.nx s1.nx ρ)(h:pq P YG af s= .ok x s1):lR P B ρ s s1 w af b cs (lone (b.atR a af.todo) cs w) x:=by obtain⟨k,aO,j,rfl,h1⟩:=R8 h;exact Ib bH hc hl k bC ax hf h1
theorem aaC(bH:P.follows .mixedOrders=true)(hc:fQ P B YG)(hl:∀t a,YF<|YG t a)(cj:P.funcs[f]? =some fn)(ct:fn.body=some body)(dE:(fn.name == "runtime.NumGoroutine")=false)(eN:iz body)(fi:bB s)(r:Rel B ρ s.h w)(hg:gC ρ)(hf:dA s.nx s1.nx ρ)(h:uV P f fn.ntmps fn.results.toList body YG args s= .ok x s1)(hv:ay ρ args vs.toList):jg P ((callFunc f vs).run P w)<|ki B ρ s s1 w x:=by
 have bG:(callFunc f vs).run P w= .ok (.enter f vs) w:=by
  have FV:(program).run P w= .ok P w:=rfl;have hn:fn.name≠ "runtime.NumGoroutine" :=by simpa using dE
  simp only[callFunc,Sem.run_bind,FV,Result.andThen_ok,cj,dE,ct];simp
 rw[bG];unfold uV at h;obtain⟨h1,h2⟩:=cV h;have oS:=aL.1 h1;obtain⟨y,s2,h3,h4⟩:=M.aN h2;cases y with
 |go fr=>cases h4
 |leave fr j=>have GW:finish P fn.results.toList fr j s2= .ok x s1:=h4;have dz:=(YF.pq P hl ⟨f,dt args,max fn.ntmps args.length,[.code body],[],none⟩).cm fi h3;have BP:=(YF.finish P fn.results.toList fr j).le dz GW;exact Ro cj ct dz (fun cs=>R9 (b:={(default:Frame) with fn:=f,kind:=.normal,roundOf:=none}) (a:={tmps:=vs++Array.replicate (fn.ntmps - vs.size) undef,defers:=[]}) bH hc hl ⟨rfl,rfl,trivial,rfl,.cons eN .nil⟩ ⟨Ht hv _ oS,r,hg,oS,fi⟩ (hf.sub (Nat.le_refl _) BP) h3) GW
theorem ZS(bH:P.follows .mixedOrders=true)(hc:fQ P B YG)(hl:∀t a,YF<|YG t a){l bl N:Nat}(fi:bB s)(r:Rel B ρ s.h w)(hg:gC ρ)(hf:dA s.nx s1.nx ρ)(h:wF P YG l args s= .ok x s1)(hv:ay ρ args vs.toList)(BQ:ρ l=some (bl,N)):jg P ((Instr.yield bl vs).run P w)<|ki B ρ s s1 w x:=by
 unfold wF at h;obtain⟨o,s2,h1,h2⟩:=M.aN h;obtain⟨h3,st,bL,fn,t,nt,ps,aa,bb,d,rfl⟩:=Cn h1;obtain⟨h4,h5⟩:=cV h2;obtain⟨y,s3,h6,h7⟩:=M.aN h5;obtain⟨q1,q2⟩:=and_true.1 h4;have hlen:=ey.1 q1;have Qk:∀p∈ps,p<nt:=fun p hp=>by have:=List.all_eq_true.1 q2 p hp;rw[←blt_eq];exact this
 obtain⟨hx,iR,hh,cr⟩:=fU h3;have dz:bB s2:=(YF.bt _).cm fi h3;have bZ:l<top:=Nat.lt_of_lt_of_le hx fi.nx;obtain⟨o',hb,hO,hB⟩:=r.block bZ iR BQ;obtain⟨ta,db,M,rfl,yf,iV,hd,eW⟩:=hO;have Ob:(Instr.yield bl vs).run P w= .ok (.round bl fn ((ps.zip vs.toList).foldl (fun tmps (t,a)=>tmps.setIfInBounds t a) ta) aa bb) w:=by
  have kr:¬(vs.size≠ps.toArray.size):=by have:=hv.length;simp at this ⊢;omega
  simp only[Instr.yield,Sem.run_bind,Ck hb,Result.andThen_ok,if_neg kr,Sem.run_pure];rw[←Array.foldl_toList];simp
 rw[Ob];intro c cs;cases y with
 |go fr=>cases h7
 |leave fr j=>
  have BL:endRound l j s3= .ok x s1:=h7;let b:Frame:={(default:Frame) with fn:=fn,kind:=.normal,roundOf:=some bl};let a:Act:={tmps:=(ps.zip vs.toList).foldl (fun tmps (t,a)=>tmps.setIfInBounds t a) ta,defers:=[]};have jo:=(YF.pq P hl ⟨fn,jw ps args t,nt,[.code aa,.beginRound,.code bb],[],some l⟩).cm dz h6;have BR:=(YF.endRound l j).le jo BL;have bC:Fr ρ ⟨fn,jw ps args t,nt,[.code aa,.beginRound,.code bb],[],some l⟩ b a:=⟨rfl,rfl,⟨N,BQ⟩,rfl,.cons eW.assign<|.cons trivial<|.cons eW.body .nil⟩;have ax:At B ρ s2 nt (jw ps args t) w a:=⟨Lx iV yf hv Qk,by rw[hh];exact r,hg,iV,dz⟩;obtain⟨σ,a',w',e1,e2,e3,e4,_,_,e6,e7⟩:=R9 (cs:=c::cs) bH hc hl bC ax (by rw[cr];exact hf.sub (Nat.le_refl _) BR) h6;have iW:Leaves j fr.todo:=e6;obtain⟨f1,rfl,ni,f2,f3,f4⟩:=Ry (P:=P) jo e2.rel (e1.le _ _ BQ) iW.code BL;refine⟨.bool j.isNone,ni,⟨σ,by rw[f1, ←cr];exact e1,by simp only[VR],f3,e4.trans f4⟩,?_⟩;have xf:Frame.round bl fn ((ps.zip vs.toList).foldl (fun tmps (t,a)=>tmps.setIfInBounds t a) ta) aa bb .normal=b.atR a [.code aa,.beginRound,.code bb]:=rfl;rw[xf];refine Steps.trans e7<|.one ?_;show step P (lone (b.atR a' fr.todo) (c::cs) w')=_;unfold Leaves at iW;split at iW
  ·rw[iW];exact stepR_round_end rfl rfl f2
  ·obtain⟨k,e⟩:=iW;rw[e];exact stepR_round_ret rfl rfl f2
  ·obtain⟨k,e,e'⟩:=iW;rw[e];exact stepR_round_exit rfl rfl e' f2
  ·obtain⟨k,e,e'⟩:=iW;rw[e];exact stepR_round_goto rfl rfl e' f2
  ·cases iW
theorem SM(hP:bS P){sp:Sp}(hs:J9 P B sp){F:Nat->Option (List AV)}(hF:B.F=F):∀(n:Nat),fQ P B (bc P sp F n)
 |0=>⟨(fun f args x s s1 ρ w vs _ _ _ _ h _=>by cases h),(fun l b N args x s s1 ρ w vs _ _ _ _ h _ _=>by cases h),(fun n o k x s s1 ρ w _ r h=>Tu hF r h)⟩
 |n+1=>by
  have ih:=SM hP hs hF n;refine⟨fun f args x s s1 ρ w vs fi r hg hf h hv=>?_,fun l b N args x s s1 ρ w vs fi r hg hf h hv hl=>ZS hP.mixed ih (Co P hs F n) fi r hg hf h hv hl,(fun n o k x s s1 ρ w _ r h=>Tu hF r h)⟩;have h':jH P sp f (bc P sp F n) args s= .ok x s1:=h;rcases SL (P:=P) sp f with⟨m,e1,e2⟩|e|⟨fn,body,e1,e2,e3,e⟩
  ·rw[e2] at h';exact hs.Eb f m e1 _ ih (Co P hs F n) args x s s1 ρ w vs fi r hg hf h' hv
  ·rw[e] at h';cases h'
  ·rw[e] at h';exact aaC hP.mixed ih (Co P hs F n) e1 e2 e3 (hP.code f fn body e1 e2) fi r hg hf h' hv
end
end Go.Rn
namespace Go.Rn
open Go.RowKit
variable {r:Nat->Nat} {k:Nat} {σ:Ren}
def bg(r:Nat->Nat)(x y:AV):Prop:=∀(ρ:Ren) (v:Value),VR ρ x v->VR (fun k=>ρ<|r k) y v
def lS(r:Nat->Nat)(x y:ae):Prop:=∀(ρ:Ren) (N:Nat) (o:Obj),OR ρ N x o->OR (fun k=>ρ<|r k) N y o
def au(P:Program)(B:aJ)(J:Nat)(Q:Tr AV->List Nat->Option Code->AS->Prop)(fr:AF)(s:AS):Prop:=∀(ρ:Ren) (w:World) (b:Frame) (a:Act) (cs:List Frame),Fr ρ fr b a->At B ρ s fr.nt fr.tmps w a->(∀k,s.nx<=k->k<top->ρ k=none)->∃(aO:AF) (j:Option Code) (s1:AS) (σ:Ren) (a':Act) (w':World),Q aO.tmps aO.defers j s1/\J<=s1.nx/\(∀k,k<J->k<top->σ k=ρ k)/\(∀k x,top<=k->ρ k=some x->σ k=some x)/\(∀k,s1.nx<=k->k<top->σ k=none)/\At B σ s1 fr.nt aO.tmps w' a'/\vD σ aO.defers a'.defers/\cw B w w'/\(aO.fn=fr.fn/\aO.nt=fr.nt/\aO.round=fr.round)/\jy aO.todo/\Leaves j aO.todo/\Steps P (lone (b.atR a fr.todo) cs w) (lone (b.atR a' aO.todo) cs w')
section
variable {P:Program} {B:aJ} {J:Nat} {Q:Tr AV->List Nat->Option Code->AS->Prop} {ρ:Ren} {w:World} {s s1 s2:AS} {YG:aK} {fr aO:AF} {j:Option Code}
theorem au.chunk(bH:P.follows .mixedOrders=true)(hc:fQ P B YG)(hl:∀t a,YF<|YG t a)(h:dV P YG k fr s= .ok (.go aO) s1)(h0:J<=s.nx)(H:au P B J Q aO s1):au P B J Q fr s:=by intro ρ w b a cs bC ax hf;have kX:=(YF.dV P hl k fr).le ax.cm h;have Qf:=((YF.dV P hl k fr).cm ax.cm h).nx;obtain⟨σ,a1,w1,e1,e2,e3,e4,⟨e5,e6,e7⟩,e8,_,e9⟩:=Ib (b:=b) (cs:=cs) bH hc hl k bC ax (fun k h1 _ h3=>hf k h1 h3) h;have Ea:aO.fn=fr.fn:=e5;have iW:aO.nt=fr.nt:=e6;have pR:aO.round=fr.round:=e7;obtain⟨ks,j,s2,τ,a2,w2,q0,qn,q1,GX,q2,q3,q4,q5,⟨q6,q7,q8⟩,q9,Qp,Qq⟩:=H σ w1 b a1 cs ⟨bC.fn.trans Ea.symm,bC.kind,by rw[pR];exact bC.round.mono e1.le,e3,e8⟩ (by rw[iW];exact e2) fun k hk ht=>(e1.out k ht aj).trans<|hf k aj ht;exact⟨ks,j,s2,τ,a2,w2,q0,qn,fun k hk gq=>(q1 k hk gq).trans<|e1.out k gq aj,fun k x hk hx=>GX k x hk<|e1.le _ _ hx,q2,by rw[←iW];exact q3,q4,e4.trans q5,⟨q6.trans Ea,q7.trans iW,q8.trans pR⟩,q9,Qp,Steps.trans e9 Qq⟩
theorem au.leave(bH:P.follows .mixedOrders=true)(hc:fQ P B YG)(hl:∀t a,YF<|YG t a)(h:dV P YG k fr s= .ok (.leave aO j) s1)(h0:J<=s.nx)(hq:Q aO.tmps aO.defers j s1):au P B J Q fr s:=by intro ρ w b a cs bC ax hf;have kX:=(YF.dV P hl k fr).le ax.cm h;have Qf:=((YF.dV P hl k fr).cm ax.cm h).nx;obtain⟨σ,a1,w1,e1,e2,e3,e4,⟨e5,e6,e7⟩,e8,e10,e9⟩:=Ib (b:=b) (cs:=cs) bH hc hl k bC ax (fun k h1 _ h3=>hf k h1 h3) h;exact⟨aO,j,s1,σ,a1,w1,hq,Nat.le_trans h0 kX,fun k hk gq=>e1.out k gq aj,fun k x _ hx=>e1.le _ _ hx,fun k hk ht=>(e1.out k ht aj).trans<|hf k aj ht,e2,e3,e4,⟨e5,e6,e7⟩,e8,e10,e9⟩
abbrev kR:=List<|Nat×Nat×List AV
def Marks(fz:kR)(ρ fE:Ren):Prop:=ρ.le fE/\(∀k,k<top->fE k=ρ k)/\∀p∈fz,∀b N,ρ p.1=some (b,N)->fE (hn p.2.1 b 0)≠none
open Classical in
noncomputable def marks(fz:kR)(ρ:Ren):Ren:=fun k=>if ρ k=none/\∃p∈fz,∃b N,ρ p.1=some (b,N)/\k=hn p.2.1 b 0 then some (0,0) else ρ k
theorem Tv(fz:kR)(ρ:Ren):Marks fz ρ<|marks fz ρ:=by
 refine⟨fun k x e=>?_,fun k hk=>?_,fun p hp b N e=>?_⟩
 ·unfold marks;rw[if_neg (fun q=>by rw[e] at q;cases q.1)];exact e
 ·unfold marks;rw[if_neg (fun⟨_,p,_,b,N,_,q⟩=>by have:=gb p.2.1 b 0;omega)]
 ·unfold marks;by_cases q:ρ (hn p.2.1 b 0)=none
  ·rw[if_pos ⟨q,p,hp,b,N,e,rfl⟩];exact fun h=>by cases h
  ·rw[if_neg fun z=>q z.1];exact q
theorem SN{fz:kR}{ρ:Ren}(h:marks fz ρ k≠none):ρ k≠none\/∃p∈fz,∃b N,ρ p.1=some (b,N)/\k=hn p.2.1 b 0:=by
 unfold marks at h;split at h
 ·rename_i q;exact .inr q.2
 ·exact .inl h
def jC(fz:kR)(r:Nat->Nat)(x y:AV):Prop:=∀(ρ fE:Ren) (v:Value),Marks fz ρ fE->VR ρ x v->VR (fun k=>fE<|r k) y v
def fj(fz:kR)(r:Nat->Nat)(x y:ae):Prop:=∀(ρ fE:Ren) (N:Nat) (o:Obj),Marks fz ρ fE->OR ρ N x o->OR (fun k=>fE<|r k) N y o
theorem bg.z{fz:kR}{x y:AV}(h:bg r x y):jC fz r x y:=fun ρ fE v m hv=>h fE v<|VR.mono m.1 _ _ hv
theorem lS.z{fz:kR}{x y:ae}(h:lS r x y):fj fz r x y:=fun ρ fE N o m hv=>h fE N o<|hv.mono m.1
def VX(F:Nat->Option (List AV))(h:Tr ae)(p:Nat×Nat×List AV):Prop:=p.1<top/\F p.2.1=some p.2.2/\∃N t z,h.get p.1=some (.cells N t z)/\∀i x,p.2.2[i]? =some x->i<N/\cellAt t z i=some x/\x.bR=true/\∀ρ v,VR ρ x v->VR (gm ρ) x v
def qx(l:List<|AV×AV):Prop:=∀p∈l,∃a b,p=(.int .i64 a,.int .i64 b)
def VY(r:Nat->Nat)(h h2:Tr ae)(n:Nat)(o2:ae):Prop:=o2.jP=true\/(r n=n/\h.get n=some o2/\match o2 with
 | .iA=>True
 | .iter m es _ left cur=>r m=m/\h2.get m=some .iA/\qx es/\qx left/\∀x,cur=some x->qx [x]
 |_=>False)
theorem Od{ρ:Ren}{l:List<|AV×AV}(hl:qx l){p:AV×AV}(hp:p∈l){a b:Value}(h1:VR ρ p.1 a)(h2:VR ρ p.2 b):VR σ p.1 a/\VR σ p.2 b:=by obtain⟨x,y,rfl⟩:=hl p hp;simp only[VR] at h1 h2 ⊢;exact⟨h1,h2⟩
theorem Up{ρ σ:Ren}:∀{l:List<|AV×AV} {es:List MapEntry} {i:Nat},qx l->jY ρ l es i->jY σ l es i
 |[],_,_,_,k=>k
 |x::l,_,i,hl,k=>by obtain⟨e,es,r,a,b,c,d⟩:=k;obtain⟨a',b'⟩:=Od hl List.mem_cons_self a b;exact⟨e,es,r,a',b',c,Up (fun p hp=>hl p<|List.mem_cons_of_mem _ hp) d⟩
theorem NB{ρ σ:Ren}:∀{l:List<|AV×AV} {es:List MapEntry},qx l->dM ρ l es->dM σ l es
 |[],_,_,k=>k
 |x::l,_,hl,k=>by obtain⟨e,es,r,a,b,d⟩:=k;obtain⟨a',b'⟩:=Od hl List.mem_cons_self a b;exact⟨e,es,r,a',b',NB (fun p hp=>hl p<|List.mem_cons_of_mem _ hp) d⟩
theorem aaD{ρ:Ren}{w:World}{n m:Nat}{es left:List<|AV×AV}{ex:Bool}{cur:Option<|AV×AV}(k:mT ρ w n m es ex left cur)(e1:σ n=ρ n)(e2:σ m=ρ m)(q1:qx es)(q2:qx left)(q3:∀x,cur=some x->qx [x]):mT σ w n m es ex left cur:=by
 obtain⟨b,N,bm,M,l,bp,seen,h1,h2,h3,h4,h5,h6,h7,⟨l',h8,h8'⟩,h9⟩:=k;refine⟨b,N,bm,M,l,bp,seen,e1.trans h1,e2.trans h2,h3,h4,h5,fun e=>⟨(h6 e).1,Up q1 (h6 e).2⟩,fun e=>⟨(h7 e).1,?_⟩,⟨l',h8,NB q2 h8'⟩,?_⟩
 ·obtain⟨l2,a,b⟩:=(h7 e).2;exact⟨l2,a,NB q1 b⟩
 ·cases cur with
  |none=>exact h9
  |some x=>obtain⟨e,a,b,c,d⟩:=h9;obtain⟨c',d'⟩:=Od (q3 x rfl) List.mem_cons_self c d;exact⟨e,a,b,c',d'⟩
theorem Rel.ahP{B:aJ}{ρ:Ren}{h h2:Tr ae}{w:World}(fz:kR)(R:Rel B ρ h w)(BV:∀k,top<=k->r k=k)(hz:∀p∈fz,VX B.F h p)(hh:∀n o2,n<top->h2.get n=some o2->r n<top/\VY r h h2 n o2/\∃o1,h.get (r n)=some o1/\fK o1 o2/\fj fz r o1 o2)(xy:∀p∈fz,∀n o2,n<top->h2.get n=some o2->r n≠p.1)(DE:∀n m o p,n<top->m<top->h2.get n=some o->h2.get m=some p->r n=r m->n=m):Rel B (fun k=>marks fz ρ<|r k) h2 w:=by
 have hm:=Tv fz ρ;refine⟨fun n o hn hg=>?_,fun n m o p b N M hn eY hg kY cP e1 e2=>?_,fun n m es ex left cur hn hg=>?_,R.size,fun i j m es ex left cur gY iU iH iJ hi rQ hg kY=>?_,fun n b sh e=>?_,?_⟩
 ·obtain⟨a1,_,o1,a3,a4,a5⟩:=hh n o hn hg;obtain⟨b,N,o',b1,b2,b3,b4⟩:=R.is (r n) o1 a1 a3;exact⟨b,N,o',(hm.2.1 _ a1).trans b1,b2,a5 ρ _ N o' hm b3,fun q=>b4<|a4.1 q⟩
 ·obtain⟨a1,_,o1,a3,a4,_⟩:=hh n o hn hg;obtain⟨c1,_,p1,c3,c4,_⟩:=hh m p eY kY;have e1:marks fz ρ (r n)=some (b,N):=e1;have e2:marks fz ρ (r m)=some (b,M):=e2;rw[hm.2.1 _ a1] at e1;rw[hm.2.1 _ c1] at e2;exact DE n m o p hn eY hg kY<|R.one (r n) (r m) o1 p1 b N M a1 c1 a3 c3 (cP.imp a4.1 c4.1) e1 e2
 ·rcases(hh n _ hn hg).2.1 with q|⟨q1,q2,q3,q4,q5,q6,q7⟩
  ·simp[ae.jP] at q
  ·obtain⟨i1,i2,i3⟩:=R.iter n m es ex left cur hn q2;exact⟨i1,q4,aaD i3 (by show marks fz ρ (r n)=_;rw[q1];exact hm.2.1 n hn) (by show marks fz ρ (r m)=_;rw[q3];exact hm.2.1 m i1) q5 q6 q7⟩
 ·rcases(hh i _ hi hg).2.1 with q|⟨_,q2,_⟩
  ·simp[ae.jP] at q
  ·rcases(hh j _ rQ kY).2.1 with q'|⟨_,Qr,_⟩
   ·simp[ae.jP] at q'
   ·exact R.lone i j m es ex left cur gY iU iH iJ hi rQ q2 Qr
 ·have e:marks fz ρ (r<|hn n b sh)≠none:=e;rw[BV _<|gb _ _ _] at e;have hle:(gm ρ).le<|gm fun k=>marks fz ρ<|r k:=by
   intro k x e;unfold gm at e ⊢;split at e
   ·rename_i q;rw[if_pos q];show marks fz ρ (r k)=some x;rw[BV k q];exact hm.1 _ _ e
   ·cases e
  rcases SN e with e|⟨p,hp,b',N,e1,e2⟩
  ·obtain⟨g0,l,c,e',fr,g1,g3,g4,g5⟩:=R.fz n b sh e;refine⟨g0,l,c,e',fr,g1,g3,fun m o N eY hg cq hr=>?_,fun i x hx=>by obtain⟨v,k1,k2,k3⟩:=g5 i x hx;exact⟨v,k1,VR.mono hle _ _ k2,k3⟩⟩;obtain⟨a1,_,o1,a3,a4,_⟩:=hh m o eY hg;exact g4 (r m) o1 N a1 a3 (a4.1 cq) (by have hr:marks fz ρ (r m)=_:=hr;rw[hm.2.1 _ a1] at hr;exact hr)
  ·obtain⟨rfl,rfl,rfl⟩:=I1 e2;obtain⟨z1,z2,N0,t,z,z3,z4⟩:=hz p hp;obtain⟨b1,N1,o',k1,k2,k3,k4⟩:=R.is p.1 _ z1 z3;rw[e1] at k1;cases k1;obtain⟨c,et,rfl,_,_,row⟩:=k3;refine⟨.inr<|k4 rfl,p.2.2,c,et,_,z2,k2,fun m o M eY hg cq hr=>?_,fun i x hx=>?_⟩
   ·obtain⟨a1,_,o1,a3,a4,_⟩:=hh m o eY hg;have hr:marks fz ρ (r m)=_:=hr;rw[hm.2.1 _ a1] at hr;exact xy p hp m o eY hg<|R.one (r m) p.1 o1 _ _ _ _ a1 z1 a3 z3 (.inl<|a4.1 cq) hr e1
   ·obtain⟨i1,i2,i3,i4⟩:=z4 i x hx;obtain⟨x',v,j1,j2,j3,j4⟩:=row i i1;rw[i2] at j1;cases j1;exact⟨v,by rw[Nat.zero_add];exact j3,VR.mono hle _ _<|i4 _ _ j4,i3⟩
 ·obtain⟨k0,H,k1,k2⟩:=R.tk;have hle:∀m x,top<=m->ρ m=some x->marks fz ρ (r m)=some x:=fun m x j9 e=>by rw[BV m j9];exact hm.1 _ _ e
  have tok:∀n k v,n<top->h2.get n=some (.tok k v)->r n<top/\h.get (r n)=some (.tok k v):=fun n k v hn hg=>by obtain⟨a1,_,o1,a3,a4,_⟩:=hh n _ hn hg;rw[a4.2.1 rfl] at a3;exact⟨a1,a3⟩
  refine⟨⟨k0.1,fun n o hn hg hf=>?_⟩,fun n=>H<|r n,fun n k v hn hg=>?_,fun n m x k v k' v' hn eY g1 g2 cf=>?_⟩
  ·obtain⟨a1,_,o1,a3,a4,a5⟩:=hh n o hn hg;obtain⟨b,N,e1,e2⟩:=k0.2 (r n) o1 a1 a3<|a4.2.2 hf;exact⟨b,N,(hm.2.1 _ a1).trans e1,e2⟩
  ·obtain⟨a1,a2⟩:=tok n k v hn hg;obtain⟨b,N,c1,c2,c3,c4⟩:=k1 (r n) k v a1 a2;refine⟨b,N,(hm.2.1 _ a1).trans c1,B.mono c2 hle fun _ _=>rfl,c3,fun x hx=>?_⟩;obtain⟨d1,d2,d3,d4⟩:=c4 x hx;refine⟨d1,d2,fun m o M eY kY cq hr=>?_,fun j sh=>?_⟩
   ·obtain⟨e1,_,o1,e3,e4,_⟩:=hh m o eY kY;exact d3 (r m) o1 M e1 e3 (e4.1 cq) (by have hr:marks fz ρ (r m)=_:=hr;rw[hm.2.1 _ e1] at hr;exact hr)
   ·show marks fz ρ (r<|Rn.hn j x sh)=none;rw[BV _<|gb _ _ _];refine Classical.byContradiction fun q=>?_;rcases SN q with q|⟨p,hp,b',N',e1,e2⟩
    ·exact q<|d4 j sh
    ·obtain⟨_,rfl,_⟩:=I1 e2;obtain⟨z1,_,N0,t,z,z3,_⟩:=hz p hp;exact d3 p.1 _ N' z1 z3 rfl e1
  ·obtain⟨a1,a2⟩:=tok n k v hn g1;obtain⟨a3,a4⟩:=tok m k' v' eY g2;exact k2 (r n) (r m) x k v k' v' a1 a3 a2 a4 fun e=>cf<|DE n m _ _ hn eY g1 g2 e
theorem au.weaken{t2:Tr AV}(fz:kR)(r:Nat->Nat)(h0:∀k,k<J->r k=k)(h1:∀k,s2.nx<=k->k<top->s.nx<=r k/\r k<top)(BV:∀k,top<=k->r k=k)(hg:fI<=J)(hf2:bB s2)(hd:fr.defers=[])(hr:fr.round=none)(hz:∀p∈fz,VX B.F s.h p)(ht:∀i y,t2.get i=some y->∃x,fr.tmps.get i=some x/\jC fz r x y)(hh:∀n o2,n<top->s2.h.get n=some o2->r n<top/\VY r s.h s2.h n o2/\∃o1,s.h.get (r n)=some o1/\fK o1 o2/\fj fz r o1 o2)(xy:∀p∈fz,∀n o2,n<top->s2.h.get n=some o2->r n≠p.1)(DE:∀n m o p,n<top->m<top->s2.h.get n=some o->s2.h.get m=some p->r n=r m->n=m)(H:au P B J Q {fr with tmps:=t2} s2):au P B J Q fr s:=by
 intro ρ w b a cs bC ax hf;have hm:=Tv fz ρ;have nA:Fx (fun k=>marks fz ρ<|r k) fr.round b.roundOf:=by
  have:=bC.round;rw[hr] at this ⊢;cases hb:b.roundOf with
  |none=>trivial
  |some l=>rw[hb] at this;cases this
 have af7:vD (fun k=>marks fz ρ<|r k) fr.defers a.defers:=by have:=bC.defs;rw[hd] at this ⊢;exact this
 have cL:∀k,k<J->k<top->marks fz ρ (r k)=ρ k:=fun k hk gq=>by rw[h0 k hk];exact hm.2.1 k gq
 have af8:gC fun k=>marks fz ρ<|r k:=fun g iF=>by obtain⟨N,e⟩:=ax.g g iF;exact⟨N,(cL g (Nat.lt_of_lt_of_le iF hg)<|Nat.lt_of_lt_of_le iF (by unfold fI top;decide)).trans e⟩
 have yf:TR (fun k=>marks fz ρ<|r k) fr.nt t2 a.tmps:=⟨ax.tr.1,fun i y hy=>by obtain⟨x,e1,e2⟩:=ht i y hy;exact e2 ρ _ _ hm<|ax.tr.2 i x e1⟩;obtain⟨ks,j,s3,τ,a2,w2,q0,qn,q1,GX,q2,q3,q4,q5,q6,q7,q8,q9⟩:=H (fun k=>marks fz ρ<|r k) w b a cs ⟨bC.fn,bC.kind,nA,af7,bC.ok⟩ ⟨yf,ax.rel.ahP fz BV hz hh xy DE,af8,ax.nt,hf2⟩ fun k hk ht=>(hm.2.1 _ (h1 k hk ht).2).trans<|hf _ (h1 k hk ht).1 (h1 k hk ht).2;exact⟨ks,j,s3,τ,a2,w2,q0,qn,fun k hk gq=>(q1 k hk gq).trans<|cL k hk gq,fun k x hk hx=>GX k x hk (by show marks fz ρ (r k)=_;rw[BV k hk];exact hm.1 _ _ hx),q2,q3,q4,q5,q6,q7,q8,q9⟩
end
end Go.Rn
