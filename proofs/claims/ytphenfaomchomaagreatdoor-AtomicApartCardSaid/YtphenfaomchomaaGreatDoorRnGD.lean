import Derived.Test.YtphenfaomchomaaGreatDoorRnGC
import Derived.RangeFuncIn
import Derived.RangeFuncLeaves
import Derived.Maps.RangeRun
set_option maxRecDepth 100000
set_option maxHeartbeats 8000000
set_option linter.unusedSimpArgs false
set_option linter.unusedVariables false
namespace Go.Rn
open Go.RowKit
variable {ρ:Ren} {w:World} {t:Tr AV} {listed:Array Bool} {j:Nat} {a:Act}
section
variable {P:Program} {B:aI} {YR:aJ} {ops:Array Oper} {nt:Nat} {H:Nat->Tr ae} {N:Nat->Nat} {T:Nat->Tr AV} {Rd Wr:Nat->Nat->Prop}
def jW(listed:Array Bool)(i:Nat):Prop:=listed.getD i false=true
def Cut(n:Nat)(W:Nat->Prop)(D:Nat->Prop)(c:Nat):Prop:=c<=n/\∀i,i<n->W i->(D i↔i<c)
theorem Sf{α:Type}{f:Nat->α}{n:Nat}{W:Nat->Prop}(hk:∀k,k<n->¬W k->f (k+1)=f k):∀(m c:Nat),c+m<=n->(∀i,c<=i->i<c+m->¬W i)->f (c+m)=f c
 |0,_,_,_=>rfl
 |m+1,c,hn,hw=>by have h1:=hk (c+m) aj<|hw (c+m) aj aj;rw[show c+(m+1)=c+m+1 from rfl,h1];exact Sf hk m c aj fun i h1 h2=>hw i h1 aj
theorem Ig{α:Type}{f:Nat->α}{n:Nat}{W D:Nat->Prop}(hk:∀k,k<n->¬W k->f (k+1)=f k){c c':Nat}(h:Cut n W D c)(h':Cut n W D c'):f c=f c':=by
 have key:∀{a b:Nat},Cut n W D a->Cut n W D b->a<=b->f b=f a:=by intro a b ha hb GS;obtain⟨m,rfl⟩:∃m,b=a+m:=⟨b - a,by omega⟩;refine Sf hk m a hb.1 fun i h1 h2 hw=>?_;have ir:i<n:=Nat.lt_of_lt_of_le h2 hb.1;have:=(ha.2 i ir hw).1<|(hb.2 i ir hw).2 h2;omega
 rcases Nat.le_total c c' with q|q
 ·exact(key h h' q).symm
 ·exact key h' h q
theorem y8(x:Text P YR ops nt H N T Rd Wr):∀{i j:Nat},i<=j->j<=ops.size->N i<=N j:=by
 intro i j lI hj;obtain⟨m,rfl⟩:∃m,j=i+m:=⟨j - i,by omega⟩;clear lI;induction m with
 |zero=>exact Nat.le_refl _
 |succ m ih=>exact Nat.le_trans (ih aj)<|x.up (i+m) aj
structure Inv (B:aI) (ops:Array Oper) (nt:Nat) (H:Nat->Tr ae) (N:Nat->Nat) (T:Nat->Tr AV) (Wr:Nat->Nat->Prop) (vx:Ren) (Ke:World) (Kf:Act) (listed:Array Bool) (a:Act) (w:World) (h:Tr ae) (t:Tr AV) (ρ:Ren):Prop where
 rel:Rel B ρ h w
 tr:TR ρ nt t a.tmps
 le:vx.le ρ
 new:∀m,m<top->ρ m≠vx m->∃i,i<ops.size/\jW listed i/\N i<=m/\m<N (i+1)
 heap:∀m,m<top->∃c,Cut ops.size (fun i=>Wr i m) (jW listed) c/\h.get m=(H c).get m
 Dm:∀d,∃c,Cut ops.size (fun i=>∃o,ops[i]? =some o/\o.dst=some d) (jW listed) c/\t.get d=(T c).get d
 below:cx B Ke w
 defers:a.defers=Kf.defers
 closed:∀(j:Nat) (o:Oper) (e:Edge),ops[j]? =some o->jW listed j->e∈o.after->Region.binds .any e=true->jW listed e.on
theorem Fj(hj:j<listed.size)(i:Nat):jW (listed.setIfInBounds j true) i↔i=j\/jW listed i:=by
 unfold jW;simp only[Array.getD_eq_getD_getElem?];by_cases e:i=j
 ·subst e;rw[Array.getElem?_setIfInBounds_self_of_lt hj];simp
 ·rw[Array.getElem?_setIfInBounds_ne<|Ne.symm e];simp[e]
theorem M9(zV:JJ ops)(x:Text P YR ops nt H N T Rd Wr)(hc:fT P B YR)(hl:∀t a,YQ<|YR t a)(iX:nt<=top){vx:Ren}(hg:gD vx)(lT:dB (N 0) (N ops.size) vx){Ke:World}{Kf:Act}{o:Oper}(hs:listed.size=ops.size){h:Tr ae}(inv:Inv B ops nt H N T Wr vx Ke Kf listed a w h t ρ)(ho:ops[j]? =some o)(hj:listed.getD j true=false)(Vv:∀e∈o.after,Region.binds .any e=true->listed.getD e.on false=true)(b:Frame)(k:List Item)(cs:List Frame)(rest:List Nat):
 ∃a' w' h' t' gH,Inv B ops nt H N T Wr vx Ke Kf (listed.setIfInBounds j true) a' w' h' t' gH/\Steps P (lone (b.atR a<|.inRegion ops (j::rest)::k) cs w) (lone (b.atR a'<|.inRegion ops rest::k) cs w'):=by
 have zW:j<ops.size:=(Array.getElem?_eq_some_iff.1 ho).1;have zX:¬jW listed j:=by unfold jW;rw[Array.getD_eq_getD_getElem?,Array.getElem?_eq_getElem aj] at hj ⊢;simp at hj ⊢;exact hj
 have WQ:=Y8 zV.Wa (jW listed) inv.closed;have ordered:∀i,i≠j->loose (Region.before ops) i j=false->(jW listed i↔i<j):=by
  intro i lI eY;unfold loose at eY;simp only[Bool.not_eq_false',Bool.or_eq_true] at eY;rcases eY with q|q
  ·obtain⟨h1,h2,_⟩:=WQ i i j (Nat.le_refl _) q;exact⟨fun hd=>absurd (h2 hd) zX,fun e=>by omega⟩
  ·obtain⟨h1,_,h3⟩:=WQ j j i (Nat.le_refl _) q;exact⟨fun _=>h1,fun _=>h3 fun o' e kJ hm hb=>by rw[ho] at kJ;cases kJ;exact Vv e hm hb⟩
 have aeK:∀i,loose (Region.before ops) i j=loose (Region.before ops) j i:=by intro i;unfold loose;rw[Bool.or_comm]
 have cutAt:∀(W:Nat->Prop),(∀i,i<ops.size->W i->i≠j->loose (Region.before ops) i j=false)->Cut ops.size W (jW listed) j:=by
  intro W hW;refine⟨Nat.le_of_lt zW,fun i hi hw=>?_⟩;by_cases e:i=j
  ·subst e;exact⟨fun hd=>absurd hd zX,fun q=>absurd q<|Nat.lt_irrefl _⟩
  ·exact ordered i e<|hW i hi hw e
 have Ux:∀(W:Nat->Prop),(∀i,i<ops.size->W i->i≠j->loose (Region.before ops) i j=false)->Cut ops.size W (jW<|listed.setIfInBounds j true) (j+1):=by
  intro W hW;refine⟨zW,fun i hi hw=>?_⟩;rw[Fj aj];by_cases e:i=j
  ·subst e;exact⟨fun _=>Nat.lt_succ_self _,fun _=>.inl rfl⟩
  ·have:=ordered i e<|hW i hi hw e;constructor
   ·rintro (q|q)
    ·exact absurd q e
    ·have:=this.1 q;omega
   ·intro q;exact .inr<|this.2 aj
 have Uy:∀(W:Nat->Prop) (c:Nat),¬W j->Cut ops.size W (jW listed) c->Cut ops.size W (jW<|listed.setIfInBounds j true) c:=by
  intro W c hW WR;refine⟨WR.1,fun i hi hw=>?_⟩;rw[Fj aj];have lI:i≠j:=by intro e;subst e;exact hW hw
  rw[←WR.2 i hi hw];exact⟨fun q=>q.resolve_left lI,.inr⟩
 have Uz:∀i m,i<ops.size->i≠j->Wr i m->Rd j m->loose (Region.before ops) i j=false:=by
  intro i m hi lI hw hr;cases q:loose (Region.before ops) i j with
  |false=>rfl
  |true=>exact absurd hr<|x.apart i j m hi zW lI q hw
 have alM:∀m,m<N j->m<top:=fun m hm=>Nat.lt_of_lt_of_le hm<|x.top j aj;have af6:∀m,m<top->Rd j m->h.get m=(H j).get m:=by intro m hm hr;obtain⟨c,jJ,we⟩:=inv.heap m hm;rw[we];exact Ig (f:=fun c=>(H c).get m) (fun k hk hw=>x.mM k m hk hw hm) jJ<|cutAt _ fun i hi hw lI=>Uz i m hi lI hw hr
 have af7:∀d∈o.looksAt ops,(T j).get d=t.get d:=by
  intro d hd;obtain⟨c,jJ,we⟩:=inv.Dm d;rw[we];refine Ig (f:=fun c=>(T c).get d) (fun k hk hw=>?_) (cutAt _ ?_) jJ
  ·have fP:ops[k]? =some ops[k]:=Array.getElem?_eq_getElem hk;exact x.slot k _ d fP fun e=>hw ⟨_,fP,e⟩
  ·rintro i hi ⟨y,hy,G0⟩ lI;exact zV.Dm i j y o d lI hy ho G0<|.inl hd
 obtain⟨t1,c1,c2,c3,c4⟩:=x.again j o ho h af6;obtain⟨v,v1,v2⟩:=Se af7 c1;obtain⟨u1,Qq⟩:∃u1,ji nt t o.dst v=some u1:=by
  rcases CF v1 with⟨e,_⟩|⟨d,e,hd,_⟩
  ·rw[e];exact⟨t,rfl⟩
  ·rw[e];refine⟨t.put d<|some v,?_⟩;show @Bool.rec (fun _=>Option<|Tr AV) none (some<|t.put d<|some v) (Nat.blt d nt)=_;rw[yS,if_pos hd]
 have qz:=v2 u1 Qq;have hNj:N j<=N (j+1):=x.up j zW;have bD:dB (N j) (N<|j+1) ρ:=by
  intro m h1 h2 kg;have e0:vx m=none:=lT m (Nat.le_trans (y8 x (Nat.zero_le j) aj) h1) (Nat.lt_of_lt_of_le h2<|y8 x zW<|Nat.le_refl _) kg;by_cases e:ρ m=vx m
  ·rw[e];exact e0
  ·exfalso;obtain⟨i,hi,Qr,p1,p2⟩:=inv.new m kg e;have lI:i≠j:=by intro q;subst q;exact zX Qr
   rcases Nat.lt_or_ge i j with q|q
   ·have:=y8 x (show i+1<=j from q) aj;omega
   ·have:=y8 x (show j+1<=i from by omega) aj;omega
 have ax:At B ρ ⟨h,N j,N j,[],[]⟩ nt t w a:=⟨inv.tr,inv.rel,hg.mono inv.le,iX,⟨Nat.le_refl _,x.top j aj⟩⟩;obtain⟨σ,a',w',g1,g2,g3,g4,g5⟩:=TB hc hl ho ax (by rw[c2];exact bD) qz b k cs rest;rw[c2] at g1;refine⟨a',w',t1.h,u1,σ,⟨g2.rel,g2.tr,Ren.le_trans inv.le g1.le,?_,?_,?_,inv.below.trans g4,g3.trans inv.defers,?_⟩,g5⟩
 ·intro m kg hm;by_cases e:ρ m=vx m
  ·by_cases q:N j<=m/\m<N (j+1)
   ·exact⟨j,zW,(Fj aj j).2<|.inl rfl,q.1,q.2⟩
   ·exact absurd ((g1.out m kg q).trans e) hm
  ·obtain⟨i,hi,Qr,p⟩:=inv.new m kg e;exact⟨i,hi,(Fj aj i).2<|.inr Qr,p⟩
 ·intro m hm;by_cases q:Wr j m
  ·refine⟨j+1,Ux _ fun i hi hw lI=>?_,c3 m q⟩;obtain⟨w1,w2⟩:=x.wrote j m zW q;by_cases e:m<N j
   ·exact Uz i m hi lI hw<|w2 e
   ·obtain⟨y1,y2⟩:=x.wrote i m hi hw;have him:m<N i:=by
     rcases Nat.lt_or_ge i j with r|r
     ·have:=y8 x (show i+1<=j from r) aj;omega
     ·have:=y8 x (show j+1<=i from by omega) aj;omega
    cases ym:loose (Region.before ops) i j with
    |false=>rfl
    |true=>rw[aeK] at ym;exact absurd (y2 him)<|x.apart j i m zW hi (Ne.symm lI) ym q
  ·obtain⟨c,jJ,we⟩:=inv.heap m hm;exact⟨c,Uy _ c q jJ,(c4 m q hm).trans we⟩
 ·intro d;by_cases q:o.dst=some d
  ·refine⟨j+1,Ux _ fun i hi hw lI=>?_,?_⟩
   ·obtain⟨y,hy,G0⟩:=hw;exact zV.Dm i j y o d lI hy ho G0<|.inr q
   ·rcases CF v1 with⟨e,_⟩|⟨d1,e,hd,e3⟩
    ·rw[e] at q;cases q
    ·rw[q] at e;cases e;rcases CF Qq with⟨e,_⟩|⟨d2,e,Eg,e4⟩
     ·rw[e] at q;cases q
     ·rw[q] at e;cases e;rw[e3,e4,Tr.lP _ _ _ _<|Nat.lt_of_lt_of_le hd iX,Tr.lP _ _ _ _<|Nat.lt_of_lt_of_le hd iX,if_pos rfl,if_pos rfl]
  ·obtain⟨c,jJ,we⟩:=inv.Dm d;refine⟨c,Uy _ c (fun hw=>?_) jJ,?_⟩
   ·obtain⟨y,hy,G0⟩:=hw;rw[ho] at hy;cases hy;exact q G0
   ·rw[←we];rcases CF Qq with⟨_,e⟩|⟨d2,e,Eg,e4⟩
    ·rw[e]
    ·rw[e4,Tr.lP _ _ _ _<|Nat.lt_of_lt_of_le Eg iX,if_neg (by intro r;subst r;exact q e)]
 ·intro j' o' e kJ hd hm hb;rw[Fj aj] at hd ⊢;rcases hd with rfl|hd
  ·rw[ho] at kJ;cases kJ;exact .inr<|Vv e hm hb
  ·exact .inr<|inv.closed j' o' e kJ hd hm hb
theorem Mw(n i:Nat):¬jW (Array.replicate n false) i:=by
 unfold jW;rw[Array.getD_eq_getD_getElem?];by_cases h:i<n
 ·simp[h]
 ·simp[h]
theorem ZB(bI:P.follows .mixedOrders=true)(zV:JJ ops)(hc:fT P B YR)(hl:∀t a,YQ<|YR t a){id:Nat}{t1:Tr AV}{s s1:AS}(ax:At B ρ s nt t w a)(hf:dB s.nx s1.nx ρ)(h:qc P YR nt ops t s= .ok t1 s1)(b:Frame)(k:List Item)(cs:List Frame):
 DN P B ρ s s1 nt t1 w a (lone (b.atR a<|.code (.region id ops true)::k) cs w) (fun a' w'=>lone (b.atR a' k) cs w'):=by
 obtain⟨⟨t',ms⟩,s',h1,h2⟩:=M.aN (show((mY P YR nt ops ops.toList 0 t).bind fun x=>aF (qk (Region.before ops) x.2 x.2) <| M.pure x.1) s= .ok t1 s1 from h);obtain⟨h3,h4⟩:=cX h2;obtain⟨rfl,rfl⟩:=bB h4;obtain⟨f',H,N,T,Rd,Wr,a1,a2,a3,a4,a5,a6,x⟩:=ac1 hl ax.nt ax.cn h1 h3;have lT:dB (N 0) (N ops.size) ρ:=by rw[a2,a5];exact hf
 let w1:World:={w with drawn:=w.drawn+1};have ahK:Rel B ρ s.h w1:=ax.rel.Bu<|gP.drew w;have ahL:Inv B ops nt H N T Wr ρ w a (Array.replicate ops.size false) a w1 s.h t ρ:=by refine⟨ahK,ax.tr,Ren.le_refl ρ,fun m _ hm=>absurd rfl hm,fun m _=>⟨0,⟨Nat.zero_le _,fun i _ _=>⟨fun q=>absurd q<|Mw _ _,fun q=>absurd q<|Nat.not_lt_zero _⟩⟩,by rw[a1]⟩,fun d=>⟨0,⟨Nat.zero_le _,fun i _ _=>⟨fun q=>absurd q<|Mw _ _,fun q=>absurd q<|Nat.not_lt_zero _⟩⟩,by rw[a3]⟩,(gP.drew w).below ax.rel.size,rfl,fun j o e _ q=>absurd q<|Mw _ _⟩
 obtain⟨l',a',w',z1,z2,⟨h',t',gH,inv⟩,z3⟩:=aaI (P:=P) zV.Wa b k cs (fun listed a2 w2=>∃h' t' gH,Inv B ops nt H N T Wr ρ w a listed a2 w2 h' t' gH)
  (fun listed a2 w2 i o rest q1 ⟨h',t',gH,inv⟩ q3 q4 q5=>by obtain⟨a3,w3,h3,t3,ρ3,i3,st⟩:=M9 zV x hc hl ax.nt ax.g lT q1 inv q3 q4 q5 b k cs rest;exact⟨a3,w3,⟨h3,t3,ρ3,i3⟩,st⟩)
  ops.size (w.tape w.drawn<|.order b.fn id) (Array.replicate ops.size false) a w1 jI (abQ _) ⟨s.h,t,ρ,ahL⟩
 have all:∀(W:Nat->Prop),Cut ops.size W (jW l') ops.size:=fun W=>⟨Nat.le_refl _,fun i hi _=>⟨fun _=>hi,fun _=>z2 i hi⟩⟩;have ahM:∀m,m<top->s1.h.get m=h'.get m:=by intro m hm;obtain⟨c,c1,c2⟩:=inv.heap m hm;rw[c2, ←a4];exact Ig (f:=fun c=>(H c).get m) (fun k hk hw=>x.mM k m hk hw hm) (all _) c1
 have ahN:∀d,t'.get d=(T ops.size).get d:=by intro d;obtain⟨c,c1,c2⟩:=inv.Dm d;rw[c2];refine Ig (f:=fun c=>(T c).get d) (fun k hk hw=>?_) c1<|all _;have fP:ops[k]? =some ops[k]:=Array.getElem?_eq_getElem hk;exact x.slot k _ d fP fun e=>hw ⟨_,fP,e⟩
 refine⟨gH,a',w',⟨inv.le,fun m kg hm=>?_⟩,⟨?_,inv.rel.congr ahM,ax.g.mono inv.le,ax.nt,f'⟩,inv.defers,inv.below,?_⟩
 ·by_cases e:gH m=ρ m
  ·exact e
  ·exfalso;obtain⟨i,hi,_,p1,p2⟩:=inv.new m kg e;have q1:=y8 x (Nat.zero_le i) aj;have q2:=y8 x (show i+1<=ops.size from hi)<|Nat.le_refl _;exact hm ⟨by omega,by omega⟩
 ·rw[←a6];exact⟨inv.tr.1,fun i x hx=>inv.tr.2 i x (by rw[ahN i];exact hx)⟩
 ·refine .head stepR_region_draw ?_;simp only[Region.schedule,bI,Bool.true_or,if_true];exact z3
end
end Go.Rn
namespace Go.Rn
open Go.RowKit
variable {l bl N:Nat} {σ:Ren} {r:Loop}
def FH(ρ:Ren):Option Nat->Option Nat->Prop
 |none,none=>True
 |some l,some b=>∃N,ρ l=some (b,N)
 |_,_=>False
theorem FH.mono{ρ:Ren}(h:ρ.le σ):∀{x y:Option Nat},FH ρ x y->FH σ x y
 |none,none,k=>k
 |some _,some _,⟨N,e⟩=>⟨N,h _ _ e⟩
 |none,some _,k=>k
 |some _,none,k=>k
def vL(ρ:Ren):List Nat->List Deferred->Prop
 |[],l=>l=[]
 |d::ds,l=>∃b N r,l={target:=.collected b,args:= #[]}::r/\ρ d=some (b,N)/\vL ρ ds r
theorem vL.mono{ρ:Ren}(h:ρ.le σ):∀{x:List Nat} {y:List Deferred},vL ρ x y->vL σ x y
 |[],_,k=>k
 |_::_,_,⟨b,N,r,e,a,d⟩=>⟨b,N,r,e,h _ _ a,d.mono h⟩
def br.fr:br->AF
 | .go fr=>fr
 | .leave fr _=>fr
def Leaves(j:Option Code)(todo:List Item):Prop:=
 match j with
 |none=>todo=[]
 |some .ret=>∃k,todo= .code .ret::k
 |some (.exit id)=>∃k,todo= .code (.exit id)::k/\exitTo id k=none
 |some (.goto l)=>∃k,todo= .code (.goto l)::k/\gotoIn l k=none
 |_=>False
def br.ok:br->Prop
 | .go _=>True
 | .leave fr j=>Leaves j fr.todo
theorem Leaves.code{j:Option Code}{todo:List Item}(h:Leaves j todo):∀c,j=some c->iw c:=by intro c e;subst e;cases c<;>first|trivial|cases h
structure Fr (ρ:Ren) (af:AF) (b:Frame) (a:Act):Prop where
 fn:b.fn=af.fn
 kind:b.kind= .normal
 round:FH ρ af.round b.roundOf
 defs:vL ρ af.defers a.defers
 ok:jC af.todo
def lV(P:Program)(B:aI)(ρ:Ren)(s s1:AS)(w:World)(af:AF)(b:Frame)(cs:List Frame)(m:Machine)(x:br):Prop:=∃σ a' w',Ext s.nx s1.nx ρ σ/\At B σ s1 af.nt x.fr.tmps w' a'/\vL σ x.fr.defers a'.defers/\cx B w w'/\(x.fr.fn=af.fn/\x.fr.nt=af.nt/\x.fr.round=af.round)/\jC x.fr.todo/\x.ok/\Steps P m (lone (b.atR a' x.fr.todo) cs w')
section
variable {P:Program} {B:aI} {ρ:Ren} {w:World} {s s1:AS} {YR:aJ} {b:Frame} {a:Act} {cs:List Frame}
theorem Ct(hb:w.heap[l]? =some (.loop r)):(Instr.getLoop l).run P w= .ok r w:=by simp[Instr.getLoop,getObj,Sem.run,hb]
theorem LI{o:Obj}(hb:w.heap[l]? =some (.loop r)):(setObj l o).run P w= .ok () {w with heap:=w.heap.setIfInBounds l o}:=by simp[setObj,Sem.run,hb]
theorem Cw{o:ae}(h:getLoop l s= .ok o s1):bu l s= .ok o s1/\∃st bN fn t nt ps aa bb d,o= .loop st bN fn t nt ps aa bb d:=by
 unfold getLoop at h;obtain⟨o',s2,h1,h2⟩:=M.aN h;split at h2
 ·obtain⟨rfl,rfl⟩:=bB h2;exact⟨h1,_,_,_,_,_,_,_,_,_,rfl⟩
 ·cases h2
theorem Nc{st aW:LoopState}{bN F1:Option Code}{fn nt d:Nat}{t:Tr AV}{ps:List Tmp}{aa bb:Code}{u:Unit}{s2:AS}(fi:bC s)(r:Rel B ρ s.h w)(hg:bu l s= .ok (.loop st bN fn t nt ps aa bb d) s2)(hl:ρ l=some (bl,N))(fP:∀c,F1=some c->iw c)(h:bK l (some<|.loop aW F1 fn t nt ps aa bb d) s2= .ok u s1):
 s1.nx=s.nx/\∃q:Loop,w.heap[bl]? =some (.loop q)/\q.state=st/\q.pending=bN/\q.fn=fn/\TR ρ nt t q.tmps/\q.params=ps.toArray/\q.assign=aa/\q.body=bb/\nt<=top/\FF bN aa bb/\Rel B ρ s1.h {w with heap:=w.heap.setIfInBounds bl<|.loop {q with state:=aW,pending:=F1}}/\cx B w {w with heap:=w.heap.setIfInBounds bl<|.loop {q with state:=aW,pending:=F1}}:=by
 obtain⟨hx,iS,hh,ct⟩:=fX hg;have ht:l<top:=Nat.lt_of_lt_of_le hx fi.nx;obtain⟨o',hb,hO,hB⟩:=r.block ht iS hl;obtain⟨ta,db,M,rfl,yp,iX,hd,eY⟩:=hO;obtain⟨_,_,_,e1,e2⟩:=jB h;obtain⟨g3,g4⟩:=Cv (o':=.loop {state:=aW,pending:=F1,fn:=fn,tmps:=ta,params:=ps.toArray,assign:=aa,body:=bb,defers:=db}) hb;refine⟨by rw[e2,ct],_,hb,rfl,rfl,rfl,yp,rfl,rfl,rfl,iX,eY,?_,g3.below<|hB rfl⟩;rw[e1,hh];exact r.put ht iS rfl rfl hl rfl g3 g4 ⟨ta,db,M,rfl,yp,iX,hd,fP,eY.assign,eY.body⟩
theorem RJ{p:Option Code}(fi:bC s)(r:Rel B ρ s.h w)(hl:ρ l=some (bl,N))(h:lQ l s= .ok p s1):
 s1.nx=s.nx/\(∀c,p=some c->iw c)/\∃w',(Instr.endLoop bl).run P w= .ok p w'/\Rel B ρ s1.h w'/\cx B w w':=by
 unfold lQ at h;obtain⟨o,s2,h1,h2⟩:=M.aN h;obtain⟨h3,st,bN,fn,t,nt,ps,aa,bb,d,rfl⟩:=Cw h1;obtain⟨h4,h5⟩:=cX h2;obtain⟨u,s3,h6,h7⟩:=M.aN h5;obtain⟨rfl,rfl⟩:=bB h7;have iS:=(fX h3);have fP:∀c,p=some c->iw c:=by obtain⟨o',hb,hO,_⟩:=r.block (Nat.lt_of_lt_of_le iS.1 fi.nx) iS.2.1 hl;obtain⟨_,_,_,_,_,_,_,eY⟩:=hO;exact eY.bN
 obtain⟨e1,q,e2,e3,e4,_,_,_,_,_,_,_,e5,e6⟩:=Nc fi r h3 hl fP h6;refine⟨e1,fP,_,?_,e5,e6⟩;have ch:(q.state == LoopState.busy)=false:=by rw[e3];cases st<;>first|rfl|cases h4
 simp only[Instr.endLoop,Sem.run_bind,Ct e2,Result.andThen_ok,ch,Bool.false_eq_true,if_false,LI e2,Sem.run_pure,e4]
theorem Rs{g:Operand}{ps:Array Tmp}{assign body:Code}{k:List Item}{mark:List Deferred}{Kg:World}{R:Value->World->Prop}(he:(Instr.enterLoop b.fn a.tmps ps assign body b.roundOf).run P w= .ok (l,mark) Kg)(h:jk P ((do let d ←Deferred.ofValue (a.eval g) #[.func (.yield l) #[] #[]];invoke d.target d.args:Sem Next).run P Kg) R):
 ∃v w',R v w'/\Steps P (lone (b.atR a<|.code (.rangeFunc g ps assign body)::k) cs w) (lone (b.atR {a with defers:=mark++a.defers}<|.endRangeFunc l::k) cs w'):=by
 have Eh:=Frame.eval_atR b {a with defers:=mark++a.defers}<|.inRangeFunc l::k;simp only[Frame.atR] at Eh;have lE:(do let d ←resolve ({tmps:=a.tmps,defers:=mark++a.defers}:Act).eval {callee:=.value g,args:= #[.const<|.func (.yield l) #[] #[]],argTypes:= #[]} 0;invoke d.target d.args:Sem Next)=
  (do let d ←Deferred.ofValue (a.eval g) #[.func (.yield l) #[] #[]];invoke d.target d.args:Sem Next):=by
  have e1:({tmps:=a.tmps,defers:=mark++a.defers}:Act).eval g=a.eval g:=by cases g<;>rfl
  have e2:(#[Operand.const<|Value.func (Fn.yield l) #[] #[]]:Array Operand).map ({tmps:=a.tmps,defers:=mark++a.defers}:Act).eval= #[Value.func (Fn.yield l) #[] #[]]:=by simp[Act.eval]
  simp only[resolve,e1,e2]
 generalize hr:(do let d ←Deferred.ofValue (a.eval g) #[.func (.yield l) #[] #[]];invoke d.target d.args:Sem Next).run P Kg=res at h;rw[←lE] at hr;have JN:stepG P true {frame:=b.atR a<|.code (.rangeFunc g ps assign body)::k,callers:=cs,status:=.running,dying:=none} w=
  GStep.after (seen P b.fn ((Instr.enterLoop b.fn a.tmps ps assign body b.roundOf).runT P w #[]).2) (stepG.apply P true (b.atR {a with defers:=mark++a.defers}<|.inRangeFunc l::k) cs none (do let d ←resolve ({tmps:=a.tmps,defers:=mark++a.defers}:Act).eval {callee:=.value g,args:= #[.const<|.func (.yield l) #[] #[]],argTypes:= #[]} 0;invoke d.target d.args) Kg):=by
  simp only[stepG,stepG.exec,Frame.atR,Sem.runT_eq,he,Eh]
 unfold jk at h;split at h
 ·rename_i v w';refine⟨v,w',h,.one<|step_lone_go ?_⟩;rw[JN,GStep.bare_after, ←finish_atR_inRangeFunc l v];simp[stepG.apply,hr]
 ·rename_i w';refine⟨undef,w',h,.one<|step_lone_go ?_⟩;rw[JN,GStep.bare_after, ←finish_atR_inRangeFunc l undef];simp[stepG.apply,hr]
 ·rename_i f args w';obtain⟨e,nk,fr,⟨v,rfl,hR⟩,A8,cm,Oj⟩:=h<|b.atR {a with defers:=mark++a.defers} (.inRangeFunc l::k)::cs;have A9:step P (lone (b.atR a<|.code (.rangeFunc g ps assign body)::k) cs w)= .next (lone (Frame.enter P f args .normal) (b.atR {a with defers:=mark++a.defers} (.inRangeFunc l::k)::cs) w'):=step_lone_go (by rw[JN,GStep.bare_after];simp[stepG.apply,hr,Frame.atR])
  refine⟨v,nk,hR,.head A9<|Steps.trans A8<|.one ?_⟩;rw[←finish_atR_inRangeFunc l v];exact step_leave_returned Oj
 ·rename_i l' f tmps ac2 af8 w';obtain⟨v,nk,hR,A8⟩:=h (b.atR {a with defers:=mark++a.defers}<|.inRangeFunc l::k) cs;have A9:step P (lone (b.atR a<|.code (.rangeFunc g ps assign body)::k) cs w)= .next (lone (Frame.round l' f tmps ac2 af8 .normal) (b.atR {a with defers:=mark++a.defers} (.inRangeFunc l::k)::cs) w'):=step_lone_go (by rw[JN,GStep.bare_after];simp[stepG.apply,hr,Frame.atR])
  refine⟨v,nk,hR,.head A9 ?_⟩;rw[←finish_atR_inRangeFunc l v];exact A8
 ·cases h
end
end Go.Rn
namespace Go.Rn
open Go.RowKit
variable {t:Tr AV} {ps:Array Tmp} {k:List Item} {body assign:Code} {af:AF} {x:br} {nt fn:Nat}
section
variable {P:Program} {B:aI} {ρ:Ren} {w:World} {s s1:AS} {YR:aJ} {b:Frame} {a:Act} {cs:List Frame}
theorem CA(bD:Fr ρ af b a)(ax:At B ρ s af.nt af.tmps w a)(h1:x.fr.tmps=af.tmps)(h2:x.fr.defers=af.defers)(h3:x.fr.fn=af.fn/\x.fr.nt=af.nt/\x.fr.round=af.round)(h4:jC x.fr.todo)(h5:x.ok)(h6:Steps P (lone (b.atR a af.todo) cs w)<|lone (b.atR a x.fr.todo) cs w):lV P B ρ s s w af b cs (lone (b.atR a af.todo) cs w) x:=⟨ρ,a,w,Ext.refl _ _ _,by rw[h1];exact ax,by rw[h2];exact bD.defs,cx.refl _ _,h3,h4,h5,h6⟩
theorem SV{fr:AF}(bD:Fr ρ af b a)(hx:fr={af with tmps:=t,todo:=k})(hk:jC k)(h:DN P B ρ s s1 af.nt t w a (lone (b.atR a af.todo) cs w) fun a' w'=>lone (b.atR a' k) cs w'):lV P B ρ s s1 w af b cs (lone (b.atR a af.todo) cs w)<|.go fr:=by subst hx;obtain⟨σ,a',w',e1,e2,e3,e4,e5⟩:=h;exact⟨σ,a',w',e1,e2,by rw[e3];exact bD.defs.mono e1.le,e4,⟨rfl,rfl,rfl⟩,hk,trivial,e5⟩
theorem ac3(ax:At B ρ s nt t w a)(h1:ρ s.nx=none)(h2:ρ (s.nx+1)=none)(l1:s.nx<top)(l2:s.nx+1<top)(eY:FF none assign body):
 ∃σ,Ext s.nx (s.nx+2) ρ σ/\σ s.nx=some (w.heap.size,0)/\σ (s.nx+1)=some (w.heap.size+1,0)/\
  (Instr.enterLoop fn a.tmps ps assign body none).run P w= .ok (w.heap.size+1,[{target:=.collected w.heap.size,args:= #[]}]) {w with heap:=(w.heap.push<|.deferred<|some []).push<|.loop {state:=.ready,pending:=none,fn,tmps:=a.tmps,params:=ps,assign,body,defers:=w.heap.size}}/\
  Rel B σ ((s.h.put s.nx<|some .defs).put (s.nx+1)<|some<|.loop .ready none fn t nt ps.toList assign body s.nx) {w with heap:=(w.heap.push<|.deferred<|some []).push<|.loop {state:=.ready,pending:=none,fn,tmps:=a.tmps,params:=ps,assign,body,defers:=w.heap.size}}/\
  cx B w {w with heap:=(w.heap.push<|.deferred<|some []).push<|.loop {state:=.ready,pending:=none,fn,tmps:=a.tmps,params:=ps,assign,body,defers:=w.heap.size}}:=by
 have r1:=ax.rel.new (n:=s.nx) (o:=.defs) (o':=.deferred<|some []) (N:=0) l1 h1 rfl rfl;have uh:eQ ρ s.nx (w.heap.size,0) (s.nx+1)=none:=by rw[gK ρ _ aj];exact h2
 have Gm:ρ.le<|eQ ρ s.nx (w.heap.size,0):=om h1;have Kh:(eQ ρ s.nx (w.heap.size,0)).le<|eQ (eQ ρ s.nx (w.heap.size,0)) (s.nx+1) (w.heap.size+1,0):=om uh;have ku:({w with heap:=w.heap.push<|.deferred<|some []}:World).heap.size=w.heap.size+1:=by simp
 have r2:=r1.new (n:=s.nx+1) (o:=.loop .ready none fn t nt ps.toList assign body s.nx) (o':=.loop {state:=.ready,pending:=none,fn,tmps:=a.tmps,params:=ps,assign,body,defers:=w.heap.size}) (N:=0) l2 uh rfl (by rw[ku];exact⟨a.tmps,w.heap.size,0,by simp,(ax.tr.mono Gm).mono Kh,ax.nt,Kh _ _<|iQ _ _ _,eY⟩);rw[ku] at r2;refine⟨_,⟨Ren.le_trans Gm Kh,fun k _ hk=>?_⟩,Kh _ _<|iQ _ _ _,iQ _ _ _,?_,r2,?_⟩
 ·rw[gK _ _ aj,gK _ _ aj]
 ·simp only[Instr.enterLoop,Sem.run_bind,newObj,Sem.run,Result.andThen_ok,Sem.run_pure];simp
 ·exact((gP.alloc w _).trans<|gP.alloc _ _).below ax.rel.size
theorem ac4{l0 bl N:Nat}{st:LoopState}{bN:Option Code}{f0 Ei d0:Nat}{t0:Tr AV}{Ej:List Tmp}{a0 b0:Code}{s2:AS}(ax:At B ρ s nt t w a)(h1:ρ s.nx=none)(l1:s.nx<top)(eY:FF none assign body)(hg:bu l0 s= .ok (.loop st bN f0 t0 Ei Ej a0 b0 d0) s2)(hl:ρ l0=some (bl,N)):
 ∃σ w',Ext s.nx (s.nx+1) ρ σ/\(∃bb M,σ s.nx=some (bb,M)/\(Instr.enterLoop fn a.tmps ps assign body<|some bl).run P w= .ok (bb,[]) w')/\Rel B σ (s.h.put s.nx<|some<|.loop .ready none fn t nt ps.toList assign body d0) w'/\cx B w w':=by
 obtain⟨hx,iS,hh,ct⟩:=fX hg;have ht:l0<top:=Nat.lt_of_lt_of_le hx ax.cn.nx;obtain⟨o',hb,hO,hB⟩:=ax.rel.block ht iS hl;obtain⟨ta,db,M,rfl,yp,iX,hd,_⟩:=hO;have Gm:ρ.le<|eQ ρ s.nx (w.heap.size,0):=om h1;have r1:=ax.rel.new (n:=s.nx) (o:=.loop .ready none fn t nt ps.toList assign body d0) (o':=.loop {state:=.ready,pending:=none,fn,tmps:=a.tmps,params:=ps,assign,body,defers:=db}) (N:=0) l1 h1 rfl ⟨a.tmps,db,M,by simp,ax.tr.mono Gm,ax.nt,Gm _ _ hd,eY⟩;refine⟨_,_,Ext.my h1,⟨w.heap.size,0,iQ _ _ _,?_⟩,r1,(gP.alloc w _).below ax.rel.size⟩;simp only[Instr.enterLoop,Sem.run_bind,Ct hb,Result.andThen_ok,Sem.run_pure,newObj,Sem.run]
theorem Rt{p:Option Code}(hp:∀c,p=some c->iw c)(hk:jC k):jC<|andThen p k:=by
 cases p with
 |none=>exact hk
 |some c=>exact .cons (hp c rfl) hk
theorem Sg(p:Option Code)(k:List Item):(p.map Item.code).toList++k=andThen p k:=by cases p<;>rfl
theorem aaK{f:Operand}(hc:fT P B YR)(hl:∀t a,YQ<|YR t a)(bD:Fr ρ af b a)(ax:At B ρ s af.nt af.tmps w a)(hf:dB s.nx s1.nx ρ)(oz:af.todo= .code (.rangeFunc f ps assign body)::k)(h:uZ f ps.toList assign body YR af.fn af.tmps af.nt af.defers af.round k s= .ok x s1):lV P B ρ s s1 w af b cs (lone (b.atR a af.todo) cs w) x:=by
 have Du:iw assign/\iw body:=by have:=bD.ok;rw[oz] at this;exact this.head
 have eY:FF none assign body:=⟨(fun c e=>by cases e),Du.1,Du.2⟩;have hk:jC k:=by have:=bD.ok;rw[oz] at this;exact this.tail
 unfold uZ at h;cases hr:af.round with
 |none=>
  rw[hr] at h;have nE:=bD.round;rw[hr] at nE;have G1:b.roundOf=none:=by
   cases e:b.roundOf with
   |none=>rfl
   |some _=>rw[e] at nE;cases nE
  obtain⟨df,s2,h1,h⟩:=M.aN h;obtain⟨l,s3,h2,h⟩:=M.aN h;obtain⟨g,h3,h⟩:=bw h;obtain⟨y,s4,h4,h⟩:=M.aN h;obtain⟨p,s5,h5,h⟩:=M.aN h;obtain⟨rfl,rfl⟩:=bB h;obtain⟨t1,rfl,rfl⟩:=uP h1;obtain⟨t2,rfl,rfl⟩:=uP h2;have ju:bC {s with h:=(s.h.put s.nx<|some .defs).put (s.nx+1)<|some<|.loop .ready none af.fn af.tmps af.nt ps.toList assign body s.nx,nx:=s.nx+1+1}:=⟨by have:=ax.cn.mark;show s.mark<=s.nx+1+1;omega,t2⟩;have BY:=(YQ.mX hl _ _).le ju h4;have o6:=(YQ.mX hl _ _).cn ju h4;have Qs:=(YQ.lQ _).le o6 h5;have PH:s.nx+2<=s4.nx:=BY;obtain⟨σ,e1,e2,e3,e4,e5,e6⟩:=ac3 (P:=P) (fn:=af.fn) (ps:=ps) ax (hf _ (Nat.le_refl _) aj aj) (hf _ aj aj aj) t1 t2 eY;have yn:VR σ g<|a.eval f:=(CS ax.tr ax.g h3).mono e1.le;have lT:dB (s.nx+2) s4.nx σ:=(hf.sub (Nat.le_refl _) Qs).next aj e1
  have O7:=SQ (P:=P) hc (ax.g.mono e1.le) ju e5 lT yn (args:=[.yield<|s.nx+1]) (vs:= #[.func (.yield<|w.heap.size+1) #[] #[]]) (by simp only[ay,VR];exact⟨_,_,rfl,⟨_,_,e3,rfl⟩,rfl⟩) h4;have Gn:=(show(Instr.enterLoop b.fn a.tmps ps assign body b.roundOf).run P w=(Instr.enterLoop af.fn a.tmps ps assign body none).run P w by rw[bD.fn,G1]).trans e4;obtain⟨v,w',⟨τ,g1,g2,g3,g4⟩,st⟩:=Rs (cs:=cs) (k:=k) Gn O7;obtain⟨q1,q2,w5,q3,q4,q5⟩:=RJ (P:=P) o6 g3 (g1.le _ _ e3) h5;have ext:Ext s.nx s4.nx ρ τ:=e1.trans aj PH g1;refine⟨τ,{a with defers:=[{target:=.collected w.heap.size,args:= #[]}]++a.defers},w5,by rw[q1];exact ext,⟨ax.tr.mono ext.le,q4,ax.g.mono ext.le,ax.nt,(YQ.lQ _).cn o6 h5⟩,?_,(e6.trans g4).trans q5,⟨rfl,rfl,hr.symm⟩,Rt q2 hk,trivial,?_⟩
  ·exact⟨w.heap.size,0,a.defers,rfl,g1.le _ _ e2,bD.defs.mono ext.le⟩
  ·rw[oz];refine Steps.trans st<|.one ?_;rw[stepR_endRangeFunc q3,Sg];rfl
 |some l0=>
  rw[hr] at h;have nE:=bD.round;rw[hr] at nE;obtain⟨bl,G1,N0,Qt⟩:∃bl,b.roundOf=some bl/\∃N,ρ l0=some (bl,N):=by
   cases e:b.roundOf with
   |none=>rw[e] at nE;cases nE
   |some bl=>rw[e] at nE;exact⟨bl,rfl,nE⟩
  obtain⟨ob,s2,h1,h⟩:=M.aN h;obtain⟨yj,st0,alN,f0,t0,Ei,Ej,a0,b0,d0,rfl⟩:=Cw h1;obtain⟨l,s3,h2,h⟩:=M.aN h;obtain⟨g,h3,h⟩:=bw h;obtain⟨y,s4,h4,h⟩:=M.aN h;obtain⟨p,s5,h5,h⟩:=M.aN h;obtain⟨rfl,rfl⟩:=bB h;obtain⟨hx,iS,hh,ct⟩:=fX yj;have dz:bC s2:=(YQ.bu _).cn ax.cn yj;obtain⟨t2,rfl,rfl⟩:=uP h2;have ju:bC {s2 with h:=s2.h.put s2.nx<|some<|.loop .ready none af.fn af.tmps af.nt ps.toList assign body d0,nx:=s2.nx+1}:=⟨by have:=dz.mark;show s2.mark<=s2.nx+1;omega,t2⟩;have BY:=(YQ.mX hl _ _).le ju h4;have o6:=(YQ.mX hl _ _).cn ju h4;have Qs:=(YQ.lQ _).le o6 h5;have PH:s2.nx+1<=s4.nx:=BY;obtain⟨σ,w2,e1,⟨bb,M2,e3,e4⟩,e5,e6⟩:=ac4 (P:=P) (fn:=af.fn) (ps:=ps) ax (hf _ (Nat.le_refl _) aj aj) (by rw[←ct];omega) eY yj Qt;rw[←hh, ←ct] at e5;rw[←ct] at e1 e3;have yn:VR σ g<|a.eval f:=(CS ax.tr ax.g h3).mono e1.le;have lT:dB (s2.nx+1) s4.nx σ:=(show dB s2.nx s4.nx ρ by rw[ct];exact hf.sub (Nat.le_refl _) Qs).next aj e1
  have O7:=SQ (P:=P) hc (ax.g.mono e1.le) ju e5 lT yn (args:=[.yield s2.nx]) (vs:= #[.func (.yield bb) #[] #[]]) (by simp only[ay,VR];exact⟨_,_,rfl,⟨_,_,e3,rfl⟩,rfl⟩) h4;have Gn:=(show(Instr.enterLoop b.fn a.tmps ps assign body b.roundOf).run P w=(Instr.enterLoop af.fn a.tmps ps assign body<|some bl).run P w by rw[bD.fn,G1]).trans e4;obtain⟨v,w',⟨τ,g1,g2,g3,g4⟩,st⟩:=Rs (cs:=cs) (k:=k) Gn O7;obtain⟨q1,q2,w5,q3,q4,q5⟩:=RJ (P:=P) o6 g3 (g1.le _ _ e3) h5;have ext:Ext s.nx s4.nx ρ τ:=by rw[←ct];exact e1.trans aj PH g1
  refine⟨τ,{a with defers:=[]++a.defers},w5,by rw[q1];exact ext,⟨ax.tr.mono ext.le,q4,ax.g.mono ext.le,ax.nt,(YQ.lQ _).cn o6 h5⟩,?_,(e6.trans g4).trans q5,⟨rfl,rfl,hr.symm⟩,Rt q2 hk,trivial,?_⟩
  ·exact bD.defs.mono ext.le
  ·rw[oz];refine Steps.trans st<|.one ?_;rw[stepR_endRangeFunc q3,Sg];rfl
end
end Go.Rn
namespace Go.Rn
open Go.RowKit
variable {x:br} {s2:AS} {k:List Item} {c:Code} {af:AF}
theorem Y9{P:Program}{b:Frame}{a:Act}{cs:List Frame}{w:World}:step P (lone (b.atR a<|.inScope c::k) cs w)= .next (lone (b.atR a k) cs w):=step_lone_go (by simp[stepG,stepG.exec,Frame.atR])
theorem ZC{P:Program}{b:Frame}{a:Act}{cs:List Frame}{w:World}:step P (lone (b.atR a<|.code (.scope c)::k) cs w)= .next (lone (b.atR a<|.code c:: .inScope c::k) cs w):=step_lone_go (by simp[stepG,stepG.exec,Frame.atR])
section
variable {P:Program} {B:aI} {ρ:Ren} {w:World} {s s1:AS} {YR:aJ} {b:Frame} {a:Act} {cs:List Frame}
theorem aaL{l bl N:Nat}{bN:Option Code}{f0 Ei d0:Nat}{t0:Tr AV}{Ej:List Tmp}{a0 b0:Code}{u:Unit}(fi:bC s)(r:Rel B ρ s.h w)(hl:ρ l=some (bl,N))(hg:bu l s= .ok (.loop .ready bN f0 t0 Ei Ej a0 b0 d0) s2)(h:bK l (some<|.loop .busy bN f0 t0 Ei Ej a0 b0 d0) s2= .ok u s1):
 s1.nx=s.nx/\∃w',(Instr.beginRound bl).run P w= .ok () w'/\Rel B ρ s1.h w'/\cx B w w':=by
 have iS:=fX hg;have fP:∀c,bN=some c->iw c:=by obtain⟨o',hb,hO,_⟩:=r.block (Nat.lt_of_lt_of_le iS.1 fi.nx) iS.2.1 hl;obtain⟨_,_,_,_,_,_,_,eY⟩:=hO;exact eY.bN
 obtain⟨e1,q,e2,e3,e4,_,_,_,_,_,_,_,e5,e6⟩:=Nc fi r hg hl fP h;refine⟨e1,_,?_,e5,e6⟩;subst e4;simp only[Instr.beginRound,Sem.run_bind,Ct e2,Result.andThen_ok,LI e2,e3,Sem.run_pure]
theorem EY(bI:P.follows .mixedOrders=true)(hc:fT P B YR)(hl:∀t a,YQ<|YR t a)(bD:Fr ρ af b a)(ax:At B ρ s af.nt af.tmps w a)(hf:dB s.nx s1.nx ρ)(h:je P YR af s= .ok x s1):lV P B ρ s s1 w af b cs (lone (b.atR a af.todo) cs w) x:=by
 obtain⟨fn,t,nt,todo,d,r⟩:=af;cases todo with
 |nil=>obtain⟨rfl,rfl⟩:=bB (show M.pure (.leave ⟨fn,t,nt,[],d,r⟩ none) s= .ok x s1 from h);exact CA bD ax rfl rfl ⟨rfl,rfl,rfl⟩ .nil rfl<|Steps.refl _ _
 |cons it k=>
  have hk:jC k:=bD.ok.tail;have pT:I8 it:=bD.ok.head;have h':(vw P it).val YR fn t nt d r k s= .ok x s1:=h;have calm:∀(l:List Item),jC l->M.pure (.go ⟨fn,t,nt,l,d,r⟩) s= .ok x s1->step P (lone (b.atR a<|it::k) cs w)= .next (lone (b.atR a l) cs w)->lV P B ρ s s1 w ⟨fn,t,nt,it::k,d,r⟩ b cs (lone (b.atR a<|it::k) cs w) x:=by intro l lf hp hs;obtain⟨rfl,rfl⟩:=bB hp;exact CA bD ax rfl rfl ⟨rfl,rfl,rfl⟩ lf trivial<|.one hs
  cases it with
  |code c=>
   cases c with
   |skip=>exact calm k hk h' stepR_skip
   |label l=>exact calm k hk h' stepR_label
   |seq p q=>exact calm (.code p:: .code q::k) (.cons pT.1<|.cons pT.2 hk) h' stepR_seq
   |cond c p q=>
    obtain⟨v,h1,h2⟩:=bw (show(aA (aG t c) fun v=>aA (xg v) fun v=>M.pure<|.go ⟨fn,t,nt,.code (@Bool.rec (fun _=>Code) q p v)::k,d,r⟩) s= .ok x s1 from h');obtain⟨y,h3,h4⟩:=bw h2;have hv:=(CS ax.tr ax.g h1).Tz h3;cases y with
    |true=>exact calm (.code p::k) (.cons pT.1 hk) h4<|stepR_cond hv
    |false=>exact calm (.code q::k) (.cons pT.2 hk) h4<|stepR_cond hv
   |block id c=>exact calm (.code c:: .inBlock id::k) (.cons pT<|.cons trivial hk) h' stepR_block
   |loop c=>exact calm (.code c:: .inLoop c::k) (.cons pT<|.cons pT hk) h' stepR_loop
   |scope c=>exact calm (.code c:: .inScope c::k) (.cons pT<|.cons pT hk) h' ZC
   |exit id=>
    have h2:Dq id YR fn t nt d r k s= .ok x s1:=h';unfold Dq at h2;cases e:exitTo id k with
    |some k'=>rw[e] at h2;exact calm k' (Mo e hk) h2<|stepR_exit e
    |none=>rw[e] at h2;obtain⟨rfl,rfl⟩:=bB h2;exact CA bD ax rfl rfl ⟨rfl,rfl,rfl⟩ bD.ok ⟨k,rfl,e⟩<|Steps.refl _ _
   |goto l=>
    have h2:Dr l YR fn t nt d r k s= .ok x s1:=h';unfold Dr at h2;cases e:gotoIn l k with
    |some k'=>rw[e] at h2;exact calm k' (Mp e hk) h2<|stepR_goto e
    |none=>rw[e] at h2;obtain⟨rfl,rfl⟩:=bB h2;exact CA bD ax rfl rfl ⟨rfl,rfl,rfl⟩ bD.ok ⟨k,rfl,e⟩<|Steps.refl _ _
   |ret=>obtain⟨rfl,rfl⟩:=bB (show M.pure (.leave ⟨fn,t,nt,.code .ret::k,d,r⟩<|some .ret) s= .ok x s1 from h');exact CA bD ax rfl rfl ⟨rfl,rfl,rfl⟩ bD.ok ⟨k,rfl⟩<|Steps.refl _ _
   |region id ops draw=>
    cases draw with
    |false=>obtain⟨t1,s2,h1,h2⟩:=M.aN (show((jj P YR nt ops ops.toList t).bind fun t=>M.pure<|.go ⟨fn,t,nt,k,d,r⟩) s= .ok x s1 from h');obtain⟨rfl,rfl⟩:=bB h2;exact SV bD rfl hk<|Z0 hc hl ax hf h1 b k cs
    |true=>obtain⟨t1,s2,h1,h2⟩:=M.aN (show((qc P YR nt ops t).bind fun t=>M.pure<|.go ⟨fn,t,nt,k,d,r⟩) s= .ok x s1 from h');obtain⟨rfl,rfl⟩:=bB h2;exact SV bD rfl hk<|ZB bI (pT rfl) hc hl ax hf h1 b k cs
   |rangeFunc f ps p q=>exact aaK hc hl bD ax hf rfl h'
   |refuse why=>cases h'
  |inBlock id=>exact calm k hk h' stepR_inBlock
  |inScope c=>exact calm k hk h' Y9
  |inLoop c=>exact calm (.code c:: .inLoop c::k) (.cons pT<|.cons pT hk) h' stepR_inLoop
  |beginRound=>
   have h2:yY YR fn t nt d r k s= .ok x s1:=h';unfold yY at h2;cases r with
   |none=>cases h2
   |some l=>
    obtain⟨bl,G1,N0,Qt⟩:∃bl,b.roundOf=some bl/\∃N,ρ l=some (bl,N):=by
     have nE:=bD.round;cases e:b.roundOf with
     |none=>rw[e] at nE;cases nE
     |some bl=>rw[e] at nE;exact⟨bl,rfl,nE⟩
    obtain⟨o,s2,h3,h4⟩:=M.aN h2;obtain⟨h5,st,bN,f0,t0,Ei,Ej,a0,b0,d0,rfl⟩:=Cw h3;cases st<;>first|(cases h4;done)|skip
    obtain⟨u,s3,h6,h7⟩:=M.aN h4;obtain⟨rfl,rfl⟩:=bB h7;obtain⟨e1,w',e2,e3,e4⟩:=aaL (P:=P) ax.cn ax.rel Qt h5 h6;have dz:bC s1:=(YQ.bK _ _).cn ((YQ.bu _).cn ax.cn h5) h6;exact⟨ρ,a,w',by rw[e1];exact Ext.refl _ _ _,⟨ax.tr,e3,ax.g,ax.nt,dz⟩,bD.defs,e4,⟨rfl,rfl,rfl⟩,hk,trivial,.one<|stepR_beginRound G1 e2⟩
  |_=>cases h'
theorem lV.JO{fr:AF}{m:Machine}(bD:Fr ρ af b a)(h:lV P B ρ s s2 w af b cs m<|.go fr)(lh:s.nx<=s2.nx)(pS:s2.nx<=s1.nx)(k:∀(σ:Ren) (a':Act) (w':World),Ext s.nx s2.nx ρ σ->Fr σ fr b a'->At B σ s2 fr.nt fr.tmps w' a'->lV P B σ s2 s1 w' fr b cs (lone (b.atR a' fr.todo) cs w') x):lV P B ρ s s1 w af b cs m x:=by obtain⟨σ,a',w',e1,e2,e3,e4,⟨e5,e6,e7⟩,e8,_,e9⟩:=h;have iY:fr.nt=af.nt:=e6;obtain⟨τ,GY,nk,f1,f2,f3,f4,⟨f5,f6,f7⟩,f8,f9,f10⟩:=k σ a' w' e1 ⟨bD.fn.trans e5.symm,bD.kind,by have:=bD.round.mono e1.le;rw[←e7] at this;exact this,e3,e8⟩ (by rw[iY];exact e2);exact⟨τ,GY,nk,e1.trans lh pS f1,by rw[iY] at f2;exact f2,f3,e4.trans f4,⟨f5.trans e5,f6.trans e6,f7.trans e7⟩,f8,f9,Steps.trans e9 f10⟩
theorem EZ(bI:P.follows .mixedOrders=true)(hc:fT P B YR)(hl:∀t a,YQ<|YR t a):∀(n:Nat) {ρ:Ren} {w:World} {s s1:AS} {a:Act} {af:AF} {x:br},Fr ρ af b a->At B ρ s af.nt af.tmps w a->dB s.nx s1.nx ρ->
 nG P YR n af s= .ok x s1->lV P B ρ s s1 w af b cs (lone (b.atR a af.todo) cs w) x
 |0,ρ,w,s,s1,a,af,x,bD,ax,hf,h=>EY bI hc hl bD ax hf h
 |n+1,ρ,w,s,s1,a,af,x,bD,ax,hf,h=>by
  obtain⟨y,s2,h1,h2⟩:=M.aN (show((nG P YR n af).bind fun x=> @br.rec (fun _=>M br) (nG P YR n) (fun fr j=>M.pure<|.leave fr j) x) s= .ok x s1 from h);have lh:=(YQ.nG P hl n af).le ax.cn h1;have dz:=(YQ.nG P hl n af).cn ax.cn h1;cases y with
  |go fr=>have rW:nG P YR n fr s2= .ok x s1:=h2;have pS:=(YQ.nG P hl n fr).le dz rW;have w1:=EZ bI hc hl n bD ax (hf.sub (Nat.le_refl _) pS) h1;exact w1.JO bD lh pS fun σ a' w' e1 Bv Bw=>EZ bI hc hl n Bv Bw (hf.next lh e1) rW
  |leave fr j=>obtain⟨rfl,rfl⟩:=bB (show M.pure (.leave fr j) s2= .ok x s1 from h2);exact EZ bI hc hl n bD ax hf h1
theorem Mx(bI:P.follows .mixedOrders=true)(hc:fT P B YR)(hl:∀t a,YQ<|YR t a):∀(n k:Nat) {ρ:Ren} {w:World} {s s1:AS} {a:Act} {af:AF} {x:br},Fr ρ af b a->At B ρ s af.nt af.tmps w a->dB s.nx s1.nx ρ->
 ql P YR n k af s= .ok x s1->lV P B ρ s s1 w af b cs (lone (b.atR a af.todo) cs w) x
 |0,k,ρ,w,s,s1,a,af,x,bD,ax,hf,h=>by cases h
 |n+1,k,ρ,w,s,s1,a,af,x,bD,ax,hf,h=>by
  obtain⟨y,s2,h1,h2⟩:=M.aN (show((nG P YR k af).bind fun x=> @br.rec (fun _=>M br) (fun fr=>ql P YR n (Nat.succ k) fr) (fun fr j=>M.pure<|.leave fr j) x) s= .ok x s1 from h);have lh:=(YQ.nG P hl k af).le ax.cn h1;have dz:=(YQ.nG P hl k af).cn ax.cn h1;cases y with
  |go fr=>have rW:ql P YR n (k+1) fr s2= .ok x s1:=h2;have pS:=(YQ.ql P hl n (k+1) fr).le dz rW;have w1:=EZ (b:=b) (cs:=cs) bI hc hl k bD ax (hf.sub (Nat.le_refl _) pS) h1;exact w1.JO bD lh pS fun σ a' w' e1 Bv Bw=>Mx bI hc hl n (k+1) Bv Bw (hf.next lh e1) rW
  |leave fr j=>obtain⟨rfl,rfl⟩:=bB (show M.pure (.leave fr j) s2= .ok x s1 from h2);exact EZ bI hc hl k bD ax hf h1
end
end Go.Rn
namespace Go.Rn
open Go.RowKit
variable {x:AV} {l bl N:Nat}
section
variable {P:Program} {B:aI} {ρ:Ren} {w:World} {s s1:AS} {YR:aJ}
theorem LL{nt:Nat}(iX:nt<=top):∀{ps:List Tmp} {args:List AV} {vs:List Value} {t:Tr AV} {arr:Array Value},TR ρ nt t arr->ay ρ args vs->(∀p∈ps,p<nt)->
 TR ρ nt (jz ps args t) ((ps.zip vs).foldl (fun tmps (t,a)=>tmps.setIfInBounds t a) arr)
 |[],args,vs,t,arr,h,_,_=>by simpa[jz] using h
 |p::ps,[],vs,t,arr,h,hv,_=>by simp only[ay] at hv;subst hv;simpa[jz] using h
 |p::ps,v::args,vs,t,arr,h,hv,hp=>by simp only[ay] at hv;obtain⟨u,us,rfl,h1,h2⟩:=hv;simp only[jz,List.zip_cons_cons,List.foldl_cons];exact LL iX (h.set (hp p List.mem_cons_self) iX h1) h2 fun q hq=>hp q<|List.mem_cons_of_mem _ hq
theorem RK{j:Option Code}(fi:bC s)(r:Rel B ρ s.h w)(hl:ρ l=some (bl,N))(hj:∀c,j=some c->iw c)(h:endRound l j s= .ok x s1):
 s1.nx=s.nx/\x= .bool j.isNone/\∃w',(Instr.endRound bl j).run P w= .ok (.bool j.isNone) w'/\Rel B ρ s1.h w'/\cx B w w':=by
 unfold endRound at h;obtain⟨o,s2,h1,h2⟩:=M.aN h;obtain⟨h3,st,bN,fn,t,nt,ps,aa,bb,d,rfl⟩:=Cw h1;obtain⟨u,s3,h4,h5⟩:=M.aN h2;obtain⟨rfl,rfl⟩:=bB h5;obtain⟨e1,q,e2,e3,e4,_,_,_,_,_,_,_,e5,e6⟩:=Nc fi r h3 hl hj h4;refine⟨e1,rfl,_,?_,e5,e6⟩;cases j<;>simp only[Instr.endRound,Sem.run_bind,Ct e2,Result.andThen_ok,LI e2,Sem.run_pure]<;>rfl
theorem aaM(bI:P.follows .mixedOrders=true)(hc:fT P B YR)(hl:∀t a,YQ<|YR t a){args:List AV}{vs:Array Value}(fi:bC s)(r:Rel B ρ s.h w)(hg:gD ρ)(hf:dB s.nx s1.nx ρ)(h:AE P YR l args s= .ok x s1)(hv:ay ρ args vs.toList)(BZ:ρ l=some (bl,N)):jk P ((Instr.yield bl vs).run P w)<|km B ρ s s1 w x:=by
 unfold AE at h;obtain⟨o,s2,h1,h2⟩:=M.aN h;obtain⟨h3,st,bN,fn,t,nt,ps,aa,bb,d,rfl⟩:=Cw h1;obtain⟨h4,h5⟩:=cX h2;obtain⟨y,s3,h6,h7⟩:=M.aN h5;obtain⟨q1,q2⟩:=and_true.1 h4;have hlen:=eA.1 q1;have Qu:∀p∈ps,p<nt:=fun p hp=>by have:=List.all_eq_true.1 q2 p hp;rw[←blt_eq];exact this
 obtain⟨hx,iS,hh,ct⟩:=fX h3;have dz:bC s2:=(YQ.bu _).cn fi h3;have cf:l<top:=Nat.lt_of_lt_of_le hx fi.nx;obtain⟨o',hb,hO,hB⟩:=r.block cf iS BZ;obtain⟨ta,db,M,rfl,yp,iX,hd,eY⟩:=hO;have Ol:(Instr.yield bl vs).run P w= .ok (.round bl fn ((ps.zip vs.toList).foldl (fun tmps (t,a)=>tmps.setIfInBounds t a) ta) aa bb) w:=by
  have ku:¬(vs.size≠ps.toArray.size):=by have:=hv.length;simp at this ⊢;omega
  simp only[Instr.yield,Sem.run_bind,Ct hb,Result.andThen_ok,if_neg ku,Sem.run_pure];rw[←Array.foldl_toList];simp
 rw[Ol];intro c cs;cases y with
 |go fr=>cases h7
 |leave fr j=>
  have BU:endRound l j s3= .ok x s1:=h7;let b:Frame:={(default:Frame) with fn:=fn,kind:=.normal,roundOf:=some bl};let a:Act:={tmps:=(ps.zip vs.toList).foldl (fun tmps (t,a)=>tmps.setIfInBounds t a) ta,defers:=[]};have pS:=(YQ.ql P hl depth 2 ⟨fn,jz ps args t,nt,[.code aa,.beginRound,.code bb],[],some l⟩).le dz h6;have ju:=(YQ.ql P hl depth 2 ⟨fn,jz ps args t,nt,[.code aa,.beginRound,.code bb],[],some l⟩).cn dz h6;have B0:=(YQ.endRound l j).le ju BU;have bD:Fr ρ ⟨fn,jz ps args t,nt,[.code aa,.beginRound,.code bb],[],some l⟩ b a:=⟨rfl,rfl,⟨N,BZ⟩,rfl,.cons eY.assign<|.cons trivial<|.cons eY.body .nil⟩;have ax:At B ρ s2 nt (jz ps args t) w a:=⟨LL iX yp hv Qu,by rw[hh];exact r,hg,iX,dz⟩;obtain⟨σ,a',w',e1,e2,e3,e4,_,_,e6,e7⟩:=Mx (cs:=c::cs) bI hc hl depth 2 bD ax (by rw[ct];exact hf.sub (Nat.le_refl _) B0) h6;have iY:Leaves j fr.todo:=e6;obtain⟨f1,rfl,nk,f2,f3,f4⟩:=RK (P:=P) ju e2.rel (e1.le _ _ BZ) iY.code BU;refine⟨.bool j.isNone,nk,⟨σ,by rw[f1, ←ct];exact e1,by simp only[VR],f3,e4.trans f4⟩,?_⟩;have xm:Frame.round bl fn ((ps.zip vs.toList).foldl (fun tmps (t,a)=>tmps.setIfInBounds t a) ta) aa bb .normal=b.atR a [.code aa,.beginRound,.code bb]:=rfl;rw[xm];refine Steps.trans e7<|.one ?_;show step P (lone (b.atR a' fr.todo) (c::cs) w')=_;unfold Leaves at iY;split at iY
  ·rw[iY];exact stepR_round_end rfl rfl f2
  ·obtain⟨k,e⟩:=iY;rw[e];exact stepR_round_ret rfl rfl f2
  ·obtain⟨k,e,e'⟩:=iY;rw[e];exact stepR_round_exit rfl rfl e' f2
  ·obtain⟨k,e,e'⟩:=iY;rw[e];exact stepR_round_goto rfl rfl e' f2
  ·cases iY
theorem Zl{nt:Nat}{t:Tr AV}{tmps:Array Value}{rv:ResultVar}(ht:TR ρ nt t tmps)(fi:bC s)(r:Rel B ρ s.h w)(h:AB P t rv s= .ok x s1):
 s1.h=s.h/\s1.nx=s.nx/\bC s1/\∃v,(match rv with| .tmp t=>pure (tmps.getD t undef)| .cell a t=>do Go.loadVar t (←asAddr (tmps.getD a undef)):Sem Value).run P w= .ok v w/\VR ρ x v:=by
 cases rv with
 |tmp i=>obtain⟨hx,rfl⟩:=gS (show lift (t.get i) s= .ok x s1 from h);exact⟨rfl,rfl,fi,_,rfl,ht.2 i x hx⟩
 |cell a ty=>
  obtain⟨ad,s2,h1,h2⟩:=M.aN (show((lift (match t.get a with|some x=>addrOf x|none=>none)).bind fun a=>Rn.loadVar P ty a.1 a.2) s= .ok x s1 from h);obtain⟨h3,hs⟩:=gS h1;subst hs;cases Qv:t.get a with
  |none=>rw[Qv] at h3;cases h3
  |some xa=>
  rw[Qv] at h3;obtain⟨b,N,h4,h5⟩:=(ht.2 a xa Qv).M5 h3;obtain⟨a1,a2,v,a3,a4⟩:=RP (P:=P) fi r h2 h4;exact⟨a1,a2,(YQ.loadVar P ty _ _).cn fi h2,v,by simp[h5,asAddr,a3],a4⟩
theorem Ht{nt:Nat}{t:Tr AV}{tmps:Array Value}(ht:TR ρ nt t tmps):∀{l:List ResultVar} {vs:List AV} {s s1:AS},bC s->Rel B ρ s.h w->sI P t l s= .ok vs s1->
 s1.h=s.h/\s1.nx=s.nx/\∃us,(l.mapM fun| .tmp t=>pure (tmps.getD t undef)| .cell a t=>do Go.loadVar t (←asAddr (tmps.getD a undef)):Sem<|List Value).run P w= .ok us w/\ay ρ vs us
 |[],vs,s,s1,fi,r,h=>by obtain⟨rfl,rfl⟩:=bB (show M.pure [] s= .ok vs s1 from h);exact⟨rfl,rfl,[],rfl,by simp[ay]⟩
 |rv::l,vs,s,s1,fi,r,h=>by
  obtain⟨v,s2,h1,h2⟩:=M.aN (show((AB P t rv).bind fun v=>(sI P t l).bind fun vs=>M.pure<|v::vs) s= .ok vs s1 from h);obtain⟨us,s3,h3,h4⟩:=M.aN h2;obtain⟨rfl,rfl⟩:=bB h4;obtain⟨a1,a2,a3,u,a4,a5⟩:=Zl ht fi r h1;obtain⟨b1,b2,K3,b3,b4⟩:=Ht ht a3 (by rw[a1];exact r) h3;refine⟨b1.trans a1,b2.trans a2,u::K3,?_,?_⟩
  ·rw[List.mapM_cons];simp only[Sem.run_bind,a4,Result.andThen_ok,b3,Sem.run_pure]
  ·simp only[ay];exact⟨u,K3,rfl,a5,b4⟩
theorem Hw{fr:Frame}{cs:List Frame}:∀{l:List Nat} {ds:List Deferred} {s s1:AS} {w:World} {u:Unit},bC s->Rel B ρ s.h w->vL ρ l ds->qZ l s= .ok u s1->
 s1.nx=s.nx/\bC s1/\∃w',Rel B ρ s1.h w'/\cx B w w'/\∀(fr:Frame) (cs:List Frame),fr.mode≠ .run->fr.defers=ds->Steps P (lone fr cs w) (lone {fr with defers:=[]} cs w')
 |[],ds,s,s1,w,u,fi,r,hd,h=>by obtain⟨_,rfl⟩:=bB (show M.pure () s= .ok u s1 from h);have Eg:ds=[]:=hd;subst Eg;exact⟨rfl,fi,w,r,cx.refl _ _,fun fr cs _ e=>by rw[←e];exact Steps.refl _ _⟩
 |d::l,ds,s,s1,w,u,fi,r,hd,h=>by
  obtain⟨b,N,ds',rfl,hn,hds⟩:=hd;obtain⟨o,s2,h1,h2⟩:=M.aN (show((bu d).bind fun o=>match o with| .defs=>(bK d none).bind fun _=>qZ l|_=>fail) s= .ok u s1 from h);obtain⟨hx,iS,hh,ct⟩:=fX h1;have dz:=(YQ.bu d).cn fi h1;have cf:d<top:=Nat.lt_of_lt_of_le hx fi.nx;obtain⟨o',hb,hO,hB⟩:=r.block cf iS hn;cases o with
  |defs=>
   obtain⟨u2,s3,h3,h4⟩:=M.aN h2;have ju:=(YQ.bK d none).cn dz h3;obtain⟨_,_,_,i1,i2⟩:=jB h3;have hO':o'= .deferred (some []):=hO;subst hO';obtain⟨g3,g4⟩:=Cv (o':=.deferred none) hb;obtain⟨k1,_⟩:=r.Vs cf iS rfl rfl hn g3;obtain⟨e1,e2,w',e3,e4,e5⟩:=Hw (fr:=fr) (cs:=cs) ju (by rw[i1,hh];exact k1) hds h4;refine⟨by rw[e1,i2,ct],e2,w',e3,(g3.below<|hB rfl).trans e4,fun fr cs hm hdf=>?_⟩;have af9:(Instr.takeDeferred b).run P w= .ok [] {w with heap:=w.heap.setIfInBounds b<|.deferred none}:=by simp[Instr.takeDeferred,getObj,setObj,Sem.run,hb]
   have hs:=step_collected (P:=P) (cs:=cs) hm hdf rfl af9;exact .head hs<|e5 {fr with defers:=[]++ds'} cs hm rfl
  |_=>cases h2
end
end Go.Rn
namespace Go.Rn
open Go.RowKit
theorem SX{ρ:Ren}{e:MapEntry}:∀{left:List<|AV×AV} {l:List MapEntry},dP ρ left l->e∈l->
 ∃x r l',(x,r)∈xF left/\VR ρ x.1 e.key/\VR ρ x.2 e.val/\dP ρ r l'/\l.Perm (e::l')
 |[],l,h,he=>by simp only[dP] at h;subst h;cases he
 |y::ys,l,h,he=>by
  simp only[dP] at h;obtain⟨e0,es,rfl,h1,h2,h3⟩:=h;rcases List.mem_cons.1 he with rfl|he
  ·exact⟨y,ys,es,by simp[xF],h1,h2,h3,List.Perm.refl _⟩
  ·obtain⟨x,r,l',k1,k2,k3,k4,k5⟩:=SX h3 he;refine⟨x,y::r,e0::l',?_,k2,k3,?_,?_⟩
   ·simp only[xF,List.mem_cons,List.mem_map];exact .inr ⟨(x,r),k1,rfl⟩
   ·simp only[dP];exact⟨e0,l',rfl,h1,h2,k4⟩
   ·exact(List.Perm.cons e0 k5).trans<|List.Perm.swap e e0 l'
theorem dP.ac5{ρ:Ren}{left:List<|AV×AV}(h:dP ρ left []):left=[]:=by
 cases left with
 |nil=>rfl
 |cons x xs=>simp only[dP] at h;obtain⟨e,es,h,_⟩:=h;cases h
section
variable {P:Program} {B:aI} {ρ:Ren} {w w':World} {h:Tr ae} {n m:Nat} {es left iH:List<|AV×AV} {ex:Bool} {cur iJ:Option<|AV×AV} {b N:Nat}
theorem Sh{w1:World}{o:Obj}(hw:w1=w\/w1=w.drew):u0 b w<|ChangeMaps.setBlock w1 b o:=by
 have h1:(ChangeMaps.setBlock w1 b o).heap=w.heap.setIfInBounds b o:=by rcases hw with rfl|rfl<;>rfl
 refine⟨?_,?_,?_,by rw[h1];simp,fun k hk=>?_⟩
 ·rcases hw with rfl|rfl<;>rfl
 ·rcases hw with rfl|rfl<;>rfl
 ·rcases hw with rfl|rfl<;>rfl
 ·rw[h1,Array.getElem?_setIfInBounds_ne aj]
theorem mV.next(ty:TypeId)(u:mV ρ w n m es ex left cur):∃b N,ρ n=some (b,N)/\
 ((left=[]/\(Instr.next (.pointer<|some ⟨b,0,none⟩) false ty).run P w= .ok (.tuple #[.bool false]) w)\/
 ∃x r v1 v2 w',(x,r)∈xF left/\VR ρ x.1 v1/\VR ρ x.2 v2/\(Instr.next (.pointer<|some ⟨b,0,none⟩) false ty).run P w= .ok (.tuple #[.bool true,v1,v2]) w'/\u0 b w w'/\(∃bm M c sn,ρ m=some (bm,M)/\w'.heap[b]? =some (.mapIter (some bm) c sn c))/\mV ρ w' n m es ex r (some x)):=by
 obtain⟨b,N,bm,M,l,bq,seen,h1,h2,h3,h4,h5,h6,h7,h8,h9⟩:=u;refine⟨b,N,h1,?_⟩;have yq:(leftOf l seen).toList=l.toList.filter fun e=> !seen.contains e.born:=by simp[leftOf]
 obtain⟨l',hp,hq⟩:=h8;rcases run_next_at (P:=P) w ty b bm bq bq seen l bq h3 h4 h5.2 (Nat.le_refl _) with⟨k1,k2⟩|⟨e,he,w1,Qw,k2⟩
 ·refine .inl ⟨?_,k2⟩;have:(leftOf l seen).toList=[]:=by apply List.eq_nil_of_length_eq_zero;simpa using k1
  rw[yq] at this;rw[this] at hp;have lf:=hp.symm.eq_nil;subst lf;exact hq.ac5
 ·refine .inr ?_;rw[yq] at he;have GV:e∈l':=hp.mem_iff.1 he;obtain⟨x,r,K4,p1,p2,p3,p4,p5⟩:=SX hq GV;have ch:bm≠b:=by intro q;subst q;rw[h3] at h4;cases h4
  have fm:(ChangeMaps.setBlock w1 b<|.mapIter (some bm) bq (seen.push e.born) bq).heap[b]? =some (.mapIter (some bm) bq (seen.push e.born) bq):=by
   have cf:b<w.heap.size:=ib h3;have:(ChangeMaps.setBlock w1 b<|.mapIter (some bm) bq (seen.push e.born) bq).heap=w.heap.setIfInBounds b (.mapIter (some bm) bq (seen.push e.born) bq):=by rcases Qw with rfl|rfl<;>rfl
   rw[this,Array.getElem?_setIfInBounds_self_of_lt cf]
  refine⟨x,r,e.key,e.val,_,p1,p2,p3,k2,Sh Qw,⟨bm,M,bq,seen.push e.born,h2,fm⟩,?_⟩;have qA:e∈l.toList:=(List.mem_filter.1 he).1;have zX:((e::K4).map (·.born)).Nodup:=by have a:((l.toList.filter fun e=> !seen.contains e.born).map (·.born)).Nodup:=(List.filter_sublist.map _).nodup h5.1;exact((hp.trans p5).map _).nodup_iff.1 a
  rw[List.map_cons,List.nodup_cons] at zX;refine⟨b,N,bm,M,l,bq,seen.push e.born,h1,h2,fm,((Sh Qw).block bm ch).trans h4,h5,h6,h7,⟨K4,?_,p4⟩,⟨e,qA,by simp,p2,p3⟩⟩;have e1:(l.toList.filter fun x=> !(seen.push e.born).contains x.born)=(l.toList.filter fun x=> !seen.contains x.born).filter fun x=> !(x.born == e.born):=by rw[List.filter_filter];congr 1;funext x;simp only[Array.contains_push];rw[Bool.not_or,Bool.and_comm]
  have e2:(e::K4).filter (fun x=> !(x.born == e.born))=K4:=by
   rw[List.filter_cons];simp only[beq_self_eq_true,Bool.not_true,Bool.false_eq_true,if_false];refine List.filter_eq_self.2 fun x hx=>?_;have:¬x.born=e.born:=by intro q;exact zX.1 (by rw[←q];exact List.mem_map_of_mem hx)
   simp[this]
  rw[e1];have:=(hp.trans p5).filter fun x=> !(x.born == e.born);rw[e2] at this;exact this
theorem Rel.Vx(r:Rel B ρ h w)(ht:n<top)(hg:h.get n=some (.iter m es ex left cur))(hr:ρ n=some (b,N))(hw:u0 b w w')(hb:∃bm M c sn,ρ m=some (bm,M)/\w'.heap[b]? =some (.mapIter (some bm) c sn c))(u:mV ρ w' n m es ex iH iJ):Rel B ρ (h.put n<|some<|.iter m es ex iH iJ) w':=by
 obtain⟨_,_,_,hB⟩:=r.block ht hg hr;obtain⟨o5,fu,_⟩:=r.iter n m es ex left cur ht hg;have rU:m≠n:=by intro e;subst e;rw[hg] at fu;cases fu
 have g:∀k,k<top->(h.put n<|some<|.iter m es ex iH iJ).get k=if k=n then some (.iter m es ex iH iJ) else h.get k:=fun k hk=>Tr.di _ _ _ _ ht hk
 have live:∀j,j<top->∀x,(if j=n then some (ae.iter m es ex iH iJ) else h.get j)=some x->∃y,h.get j=some y/\(x.dk=false->y.dk=false):=by
  intro j _ x hx;by_cases e:j=n
  ·subst e;exact⟨_,hg,fun _=>rfl⟩
  ·rw[if_neg e] at hx;exact⟨x,hx,id⟩
 refine⟨?_,?_,?_,by rw[hw.size];exact r.size,?_,r.fz.of (Ren.le_refl _) (fun b1 _ hn=>hw.block b1 fun e=>hn n _ N ht hg rfl (by rw[e];exact hr)) (fun b1 _ hn=>hn.sub fun k q hk hq gZ=>by
  rw[g k hk] at hq;obtain⟨y,e1,e2⟩:=live k hk q hq;exact⟨y,e1,e2 gZ⟩),r.tk.of (Ren.le_refl _) (fun k q hk hq xU=>by
  rw[g k hk] at hq;by_cases e:k=n
  ·rw[if_pos e] at hq;cases hq;cases xU
  ·rw[if_neg e] at hq;exact hq) (by rw[hw.size];exact Nat.le_refl _) (fun b1 _ hn=>hw.block b1 fun e=>hn n _ N ht hg rfl (by rw[e];exact hr)) (fun b1 _ hn=>hn.sub fun k q hk hq gZ=>by
  rw[g k hk] at hq;obtain⟨y,e1,e2⟩:=live k hk q hq;exact⟨y,e1,e2 gZ⟩) fun _ _ _ _ _ e=>e⟩
 ·intro k q hk hq;rw[g k hk] at hq;by_cases e:k=n
  ·subst e;rw[if_pos rfl] at hq;cases hq;obtain⟨bm,M,c,sn,q1,q2⟩:=hb;exact⟨b,N,_,hr,q2,⟨bm,M,c,sn,q1,rfl⟩,fun _=>hB rfl⟩
  ·rw[if_neg e] at hq;obtain⟨b1,N1,o1,h1,h2,h3,h4⟩:=r.is k q hk hq;refine⟨b1,N1,o1,h1,(hw.block b1 fun e2=>?_).trans h2,h3,h4⟩;subst e2;exact e<|r.one k n q _ b1 N1 N hk ht hq hg (.inr rfl) h1 hr
 ·intro k j q q' b1 N1 M1 hk hj hq eg cS h1 h2;rw[g k hk] at hq;rw[g j hj] at eg;obtain⟨y,hy,v7⟩:=live k hk q hq;obtain⟨z,hz,GR⟩:=live j hj q' eg;exact r.one k j y z b1 N1 M1 hk hj hy hz (cS.imp v7 GR) h1 h2
 ·intro i m' gY iW l' c' hi hq;rw[g i hi] at hq;by_cases e:i=n
  ·subst e;rw[if_pos rfl] at hq;cases hq;exact⟨o5,by rw[g m o5,if_neg rU];exact fu,u⟩
  ·rw[if_neg e] at hq;obtain⟨fc,hl,u'⟩:=r.iter i m' gY iW l' c' hi hq;have Ki:m'≠n:=by intro e2;subst e2;rw[hg] at hl;cases hl
   refine⟨fc,by rw[g m' fc,if_neg Ki];exact hl,u'.mM hw.block (fun M e2=>e ?_) fun M e2=>Ki ?_⟩
   ·exact r.one i n _ _ b M N hi ht hq hg (.inr rfl) e2 hr
   ·exact r.one m' n _ _ b M N fc ht hl hg (.inr rfl) e2 hr
 ·intro i j m' zT zU zi zB KZ K0 JM Kc hi hj q1 q2;rw[g i hi] at q1;rw[g j hj] at q2;have XJ:∀k,k<top->∀zT zU zi zB,(if k=n then some (ae.iter m es ex iH iJ) else h.get k)=some (.iter m' zT zU zi zB)->∃KZ K0 JM Kc,h.get k=some (.iter m' KZ K0 JM Kc):=by
   intro k _ zT zU zi zB q;by_cases e:k=n
   ·subst e;rw[if_pos rfl] at q;cases q;exact⟨_,_,_,_,hg⟩
   ·rw[if_neg e] at q;exact⟨_,_,_,_,q⟩
  obtain⟨_,_,_,_,a1⟩:=XJ i hi _ _ _ _ q1;obtain⟨_,_,_,_,a2⟩:=XJ j hj _ _ _ _ q2;exact r.lone i j m' _ _ _ _ _ _ _ _ hi hj a1 a2
theorem Rel.abS{o:ae}{o':Obj}(r:Rel B ρ h w)(ht:m<top)(hg:h.get m=some .iy)(hr:ρ m=some (b,N))(hb:w.heap[b]? =some o')(hO:OR ρ N o o')(BS:o.own=true)(lT:∀i es ex left cur,i<top->h.get i≠some (.iter m es ex left cur)):Rel B ρ (h.put m<|some o) w:=by
 obtain⟨ho,Gk⟩:=ae.uM BS;obtain⟨_,_,_,hB⟩:=r.block ht hg hr;have g:∀k,k<top->(h.put m<|some o).get k=if k=m then some o else h.get k:=fun k hk=>Tr.di _ _ _ _ ht hk
 have live:∀j,j<top->∀x,(if j=m then some o else h.get j)=some x->∃y,h.get j=some y/\(x.dk=false->y.dk=false):=by
  intro j _ x hx;by_cases e:j=m
  ·subst e;exact⟨_,hg,fun _=>rfl⟩
  ·rw[if_neg e] at hx;exact⟨x,hx,id⟩
 refine⟨?_,?_,?_,r.size,?_,r.fz.of (Ren.le_refl _) (fun _ _ _=>rfl) (fun b1 _ hn=>hn.sub fun k q hk hq gZ=>by
  rw[g k hk] at hq;obtain⟨y,e1,e2⟩:=live k hk q hq;exact⟨y,e1,e2 gZ⟩),r.tk.of (Ren.le_refl _) (fun k q hk hq xU=>by
  rw[g k hk] at hq;by_cases e:k=m
  ·rw[if_pos e] at hq;cases hq;rw[Gk] at xU;cases xU
  ·rw[if_neg e] at hq;exact hq) (Nat.le_refl _) (fun _ _ _=>rfl) (fun b1 _ hn=>hn.sub fun k q hk hq gZ=>by
  rw[g k hk] at hq;obtain⟨y,e1,e2⟩:=live k hk q hq;exact⟨y,e1,e2 gZ⟩) fun _ _ _ _ _ e=>e⟩
 ·intro k q hk hq;rw[g k hk] at hq;by_cases e:k=m
  ·subst e;rw[if_pos rfl] at hq;cases hq;exact⟨b,N,_,hr,hb,hO,fun _=>hB rfl⟩
  ·rw[if_neg e] at hq;exact r.is k q hk hq
 ·intro k j q q' b1 N1 M1 hk hj hq eg cS h1 h2;rw[g k hk] at hq;rw[g j hj] at eg;obtain⟨y,hy,v7⟩:=live k hk q hq;obtain⟨z,hz,GR⟩:=live j hj q' eg;exact r.one k j y z b1 N1 M1 hk hj hy hz (cS.imp v7 GR) h1 h2
 ·intro i m' gY iW l' c' hi hq;rw[g i hi] at hq;by_cases e:i=m
  ·subst e;rw[if_pos rfl] at hq;cases hq;simp[ae.plain] at ho
  ·rw[if_neg e] at hq;obtain⟨fc,hl,u'⟩:=r.iter i m' gY iW l' c' hi hq;have Ki:m'≠m:=by intro e2;subst e2;exact lT i _ _ _ _ hi hq
   exact⟨fc,by rw[g m' fc,if_neg Ki];exact hl,u'⟩
 ·intro i j m' zT zU zi zB KZ K0 JM Kc hi hj q1 q2;rw[g i hi] at q1;rw[g j hj] at q2;by_cases e:i=m
  ·rw[if_pos e] at q1;cases q1;simp[ae.plain] at ho
  ·rw[if_neg e] at q1;by_cases e2:j=m
   ·rw[if_pos e2] at q2;cases q2;simp[ae.plain] at ho
   ·rw[if_neg e2] at q2;exact r.lone i j m' _ _ _ _ _ _ _ _ hi hj q1 q2
theorem Rel.WS(r:Rel B ρ h w)(ht:n<top)(hg:h.get n=some (.iter m es ex left cur)):Rel B ρ ((h.put n none).put m<|some<|mapOf ex es) w:=by
 obtain⟨o5,fu,b,N,bm,M,l,bq,seen,h1,h2,h3,h4,h5,h6,h7,h8,h9⟩:=r.iter n m es ex left cur ht hg;have rU:m≠n:=by intro e;subst e;rw[hg] at fu;cases fu
 have g:∀k,k<top->(h.put n none).get k=if k=n then none else h.get k:=fun k hk=>Tr.di _ _ _ _ ht hk
 refine(r.drop ht (by rw[hg];simp)).abS o5 (by rw[g m o5,if_neg rU];exact fu) h2 h4 ?_ (by cases ex<;>rfl) ?_
 ·cases ex with
  |true=>obtain⟨q1,q2⟩:=h6 rfl;subst q1;exact⟨l,rfl,rfl,q2⟩
  |false=>obtain⟨q1,q2⟩:=h7 rfl;exact⟨l,bq,rfl,q1,h5,q2⟩
 ·intro i gY iW iH iJ hi hq;rw[g i hi] at hq;by_cases e:i=n
  ·rw[if_pos e] at hq;cases hq
  ·rw[if_neg e] at hq;exact e<|r.lone i n m _ _ _ _ _ _ _ _ hi ht hq hg
end
end Go.Rn
namespace Go.Rn
open Go.RowKit
variable {rest:List Oper} {ops:Array Oper} {o:Oper} {k:List Item} {it:Operand}
section
variable {P:Program} {B:aI} {ρ:Ren} {w w1:World} {s s1 s2:AS} {YR:aJ} {b:Frame} {a:Act} {cs:List Frame}
theorem put_defers(a:Act)(dst:Option Tmp)(v:Value):(a.put dst v).defers=a.defers:=by cases dst<;>rfl
theorem HE{fr:AF}{id:Nat}{t1 t2:Tr AV}{v:Value}(hc:fT P B YR)(hl:∀t a,YQ<|YR t a)(bD:Fr ρ fr b a)(oz:fr.todo= .code (.region id ops false)::k)(ml:ops.toList=o::rest)(B1:o.guard=none)(hd:∀c,o.op≠ .defer c)(qz:(execOp a.eval o).run P w= .ok (.value v) w1)(Bx:cx B w w1)(ax:At B ρ s1 fr.nt t1 w1<|a.put o.dst v)(ct:s1.nx=s.nx)(hf:dB s1.nx s2.nx ρ)(h:jj P YR fr.nt ops rest t1 s1= .ok t2 s2):
 lV P B ρ s s2 w fr b cs (lone (b.atR a fr.todo) cs w) (.go {fr with tmps:=t2,todo:=k}):=by
 have hw:Region.wanted o (yielded ops a.tmps)=true:=by unfold Region.wanted;rw[B1]
 have ho:ops[0]? =some o:=by rw[←Array.getElem?_toList,ml];rfl
 have ku:ops.size=rest.length+1:=by rw[←Array.length_toList,ml];rfl
 have hk:jC k:=by have:=bD.ok;rw[oz] at this;exact this.tail
 obtain⟨v',w',⟨rfl,rfl⟩,st⟩:=Sd (R:=fun v' w'=>v'=v/\w'=w1) ho hw hd (by unfold jk;rw[qz];exact⟨rfl,rfl⟩) b k cs<|List.range' 1 rest.length;obtain⟨σ,a',w2,e1,e2,e3,e4,e5⟩:=M8 hc hl b k cs rest.length 1 rest rfl (by rw[ml];rfl) ax hf h;refine⟨σ,a',w2,by rw[←ct];exact e1,e2,?_,Bx.trans e4,⟨rfl,rfl,rfl⟩,hk,trivial,?_⟩
 ·rw[e3,put_defers];exact bD.defs.mono e1.le
 ·rw[oz];refine .head stepR_region ?_;rw[List.range_eq_range',ku,List.range'_succ];exact Steps.trans st e5
theorem R4{fr:AF}{n:Nat}{ob:ae}(h:ri fr it s= .ok (n,ob) s1):aG fr.tmps it=some (.ptr<|some (n,0))/\bu n s= .ok ob s1:=by
 unfold ri at h;obtain⟨x,s2,h1,h2⟩:=M.aN h;obtain⟨h3,rfl⟩:=gS h1;split at h2
 ·obtain⟨y,s3,h4,h5⟩:=M.aN h2;obtain⟨h6,rfl⟩:=bB h5;cases h6;exact⟨h3,h4⟩
 ·cases h2
theorem RL{fr:AF}(h:AD fr=some (it,o,ops,rest,k)):
 ∃id,fr.todo= .code (.region id ops false)::k/\ops.toList=o::rest/\o.guard=none/\o.op= .next it false:=by
 unfold AD at h;split at h
 ·rename_i id alY k' oz;split at h
  ·rename_i o' alO ml;split at h
   ·rename_i it' hg ho;cases h;exact⟨id,oz,ml,hg,ho⟩
   ·cases h
  ·cases h
 ·cases h
theorem Si(bI:P.follows .mixedOrders=true)(hc:fT P B YR)(hl:∀t a,YQ<|YR t a):∀(f:Nat) {ρ:Ren} {w:World} {s s9:AS} {a:Act} {fr:AF} {x9:br},Fr ρ fr b a->At B ρ s fr.nt fr.tmps w a->dB s.nx s9.nx ρ->
 nC P YR f fr s= .ok x9 s9->lV P B ρ s s9 w fr b cs (lone (b.atR a fr.todo) cs w) x9
 |0,ρ,w,s,s9,a,fr,x9,bD,ax,hf,h=>by cases h
 |f+1,ρ,w,s,s9,a,fr,x9,bD,ax,hf,h=>by
  have on:∀{s2:AS} {aO:AF},nC P YR f aO s2= .ok x9 s9->bC s2->s.nx<=s2.nx->lV P B ρ s s2 w fr b cs (lone (b.atR a fr.todo) cs w) (.go aO)->lV P B ρ s s9 w fr b cs (lone (b.atR a fr.todo) cs w) x9:=fun h2 dz lh w1=>w1.JO bD lh ((YQ.nC P hl f _).le dz h2) fun σ a' w' e1 Bv Bw=>Si bI hc hl f Bv Bw (hf.next lh e1) h2;unfold nC at h;cases e:AD fr with
  |none=>
   rw[e] at h;obtain⟨x,s2,e1,h3⟩:=M.aN h;have dz:=(YQ.je P hl fr).cn ax.cn e1;have lh:=(YQ.je P hl fr).le ax.cn e1;cases x with
   |go aO=>exact on h3 dz lh<|EY bI hc hl bD ax (hf.sub (Nat.le_refl _)<|(YQ.nC P hl f aO).le dz h3) e1
   |leave aO j=>obtain⟨rfl,rfl⟩:=bB h3;exact EY bI hc hl bD ax hf e1
  |some q=>
   obtain⟨it,o,ops,rest,k⟩:=q;obtain⟨id,oz,ml,B1,ho⟩:=RL e;rw[e] at h;obtain⟨x,s2,e1,h3⟩:=M.aN h;obtain⟨n,ob⟩:=x;obtain⟨h1,h2⟩:=R4 e1;obtain⟨hx,hg,hh,ct⟩:=fX h2;have dz:bC s2:=(YQ.bu n).cn ax.cn h2;have ht:n<top:=Nat.lt_of_lt_of_le hx ax.cn.nx;have hd:∀c,o.op≠ .defer c:=fun c q=>by rw[ho] at q;cases q
   cases ob with
   |iter m es ex left cur=>
    obtain⟨o5,fu,u⟩:=ax.rel.iter n m es ex left cur ht hg;obtain⟨bn,N,hn,pA⟩:=u.next (P:=P) o.type;have G2:VR ρ (.ptr<|some (n,0))<|a.eval it:=CS ax.tr ax.g h1;have Eh:a.eval it= .pointer (some ⟨bn,0,none⟩):=by simp only[VR] at G2;obtain⟨b',N',q1,q2⟩:=G2;rw[hn] at q1;cases q1;exact q2
    have F2:∀v w',(Instr.next (.pointer<|some ⟨bn,0,none⟩) false o.type).run P w= .ok v w'->(execOp a.eval o).run P w= .ok (.value v) w':=by intro v w' q;simp only[execOp,ho,Eh,Sem.run_bind,q,Result.andThen_ok,Sem.run_pure]
    obtain⟨_,_,_,hB⟩:=ax.rel.block ht hg hn;cases left with
    |nil=>
     obtain⟨aO,s3,e3,h4⟩:=M.aN h3;have qz:(Instr.next (.pointer<|some ⟨bn,0,none⟩) false o.type).run P w= .ok (.tuple #[.bool false]) w:=by
      rcases pA with⟨_,q⟩|⟨x,r,v1,v2,w',q,_⟩
      ·exact q
      ·cases q
     have ju:=(YQ.nz P hl fr n m es ex o ops rest k).cn dz e3;have B0:=(YQ.nz P hl fr n m es ex o ops rest k).le dz e3;have Qx:=(YQ.nC P hl f aO).le ju h4;refine on h4 ju aj ?_;unfold nz at e3;obtain⟨u1,s4,i1,i2⟩:=M.aN e3;obtain⟨u2,s5,i3,i4⟩:=M.aN i2;obtain⟨t1,s6,i5,i6⟩:=M.aN i4;obtain⟨t2,s7,i7,i8⟩:=M.aN i6;obtain⟨rfl,rfl⟩:=bB i8;obtain⟨i9,rfl⟩:=gS i5;obtain⟨_,_,_,j1,j2⟩:=jB i1;obtain⟨_,_,_,j3,j4⟩:=jB i3;have B2:bC s6:=(YQ.bK m _).cn ((YQ.bK n _).cn dz i1) i3;have By:Rel B ρ s6.h w:=by rw[j3,j1,hh];exact ax.rel.WS ht hg
     have B3:VR ρ (.tuple [.bool false])<|.tuple #[.bool false]:=by simp only[VR,ay];exact⟨_,rfl,_,_,rfl,rfl,rfl⟩
     obtain⟨q1,q2⟩:=CG (a:=a) ax.tr ax.nt i9 B3;exact HE hc hl bD oz ml B1 hd (F2 _ _ qz) (cx.refl _ _) ⟨q1,By,ax.g,ax.nt,B2⟩ (by rw[j4,j2,ct]) (by rw[j4,j2,ct];exact hf.sub (Nat.le_refl _) Qx) i7
    |cons y ys=>
     cases ys with
     |cons _ _=>cases h3
     |nil=>
      obtain⟨aO,s3,e3,h4⟩:=M.aN h3;rcases pA with⟨q,_⟩|⟨x,r,v1,v2,w',ir,Ek,rV,qz,G3,hblk,Qy⟩
      ·cases q
      ·obtain⟨rfl,rfl⟩:x=y/\r=[]:=by simpa[xF] using ir
       have ju:=(YQ.nB P hl fr n (.iter m es ex []<|some x) o ops rest k<|.tuple [.bool true,x.1,x.2]).cn dz e3;have B0:=(YQ.nB P hl fr n (.iter m es ex []<|some x) o ops rest k<|.tuple [.bool true,x.1,x.2]).le dz e3;have Qx:=(YQ.nC P hl f aO).le ju h4;refine on h4 ju aj ?_;unfold nB at e3;obtain⟨u1,s4,i1,i2⟩:=M.aN e3;obtain⟨t1,s6,i5,i6⟩:=M.aN i2;obtain⟨t2,s7,i7,i8⟩:=M.aN i6;obtain⟨rfl,rfl⟩:=bB i8;obtain⟨i9,rfl⟩:=gS i5;obtain⟨_,_,_,j1,j2⟩:=jB i1;have B2:bC s6:=(YQ.bK n _).cn dz i1;have By:Rel B ρ s6.h w':=by rw[j1,hh];exact ax.rel.Vx ht hg hn G3 hblk Qy
       have B3:VR ρ (.tuple [.bool true,x.1,x.2])<|.tuple #[.bool true,v1,v2]:=by simp only[VR,ay];exact⟨_,rfl,_,_,rfl,rfl,_,_,rfl,Ek,_,_,rfl,rV,rfl⟩
       obtain⟨q1,q2⟩:=CG (a:=a) ax.tr ax.nt i9 B3;exact HE hc hl bD oz ml B1 hd (F2 _ _ qz) (G3.below<|hB rfl) ⟨q1,By,ax.g,ax.nt,B2⟩ (by rw[j2,ct]) (by rw[j2,ct];exact hf.sub (Nat.le_refl _) Qx) i7
   |_=>cases h3
end
end Go.Rn
namespace Go.Rn
open Go.RowKit
variable {x:AV} {vs:Array Value} {args:List AV} {u:Nat} {j:Option Code} {fn:Func} {body:Code}
section
variable {P:Program} {B:aI} {ρ:Ren} {w:World} {s s1:AS} {YR:aJ}
theorem Hx(hv:ay ρ args vs.toList)(n:Nat)(hn:max n args.length<=top):TR ρ (max n args.length) (dc args)<|vs++Array.replicate (n - vs.size) undef:=by
 have hlen:=hv.length;simp only[Array.length_toList] at hlen;refine⟨by simp;omega,fun i x hx=>?_⟩;unfold dc at hx;rw[Tr.sH _ _ _ _ aj] at hx;by_cases h:i<args.length
 ·rw[if_pos aj,Nat.sub_zero] at hx;obtain⟨v,h1,h2⟩:=hv.get i x hx;rw[Array.getD_eq_getD_getElem?,Array.getElem?_append_left aj];rw[Array.getElem?_toList] at h1;rw[h1];exact h2
 ·rw[if_neg aj,Tr.get_nil] at hx;cases hx
def Jc:List AV->AV
 |[v]=>v
 |l=>.tuple l
def oq:List Value->Value
 |[v]=>v
 |l=>.tuple l.toArray
theorem My:∀{rs:List AV} {us:List Value},ay ρ rs us->VR ρ (Jc rs) (oq us)
 |[],us,h=>by simp only[ay] at h;subst h;simp only[Jc,oq,VR,ay];exact⟨_,rfl,rfl⟩
 |[v],us,h=>by simp only[ay] at h;obtain⟨u,K3,rfl,g1,rfl⟩:=h;exact g1
 |v::v2::rs,us,h=>by simp only[ay] at h;obtain⟨u,K3,rfl,g1,u2,us2,rfl,g3,g4⟩:=h;simp only[Jc,oq,VR,ay];exact⟨_,rfl,u,_,rfl,g1,u2,us2,rfl,g3,g4⟩
theorem Mc{rs:List ResultVar}{fr:AF}(h:finish P rs fr j s= .ok x s1):
 (j=none\/j=some .ret)/\∃u s4 vs,qZ fr.defers s= .ok u s4/\sI P fr.tmps rs s4= .ok vs s1/\x=Jc vs:=by
 unfold finish at h;obtain⟨u,s3,h5,h6⟩:=M.aN h;have GU:s3=s/\(j=none\/j=some .ret):=by
  cases j with
  |none=>exact⟨(bB (show M.pure () s= .ok u s3 from h5)).2,.inl rfl⟩
  |some c=>cases c<;>first|exact⟨(bB (show M.pure () s= .ok u s3 from h5)).2,.inr rfl⟩|cases h5
 obtain⟨hs,hj⟩:=GU;clear h5 h;subst hs;obtain⟨u2,s4,h7,h8⟩:=M.aN h6;obtain⟨vs,s5,h9,gG⟩:=M.aN h8;refine⟨hj,u2,s4,vs,h7,?_⟩;cases vs with
 |nil=>obtain⟨rfl,rfl⟩:=bB (show M.pure (.tuple []) s5= .ok x s1 from gG);exact⟨h9,rfl⟩
 |cons v rs=>
  cases rs with
  |nil=>obtain⟨rfl,rfl⟩:=bB (show M.pure v s5= .ok x s1 from gG);exact⟨h9,rfl⟩
  |cons v2 rs=>obtain⟨rfl,rfl⟩:=bB (show M.pure (.tuple<|v::v2::rs) s5= .ok x s1 from gG);exact⟨h9,rfl⟩
theorem abT{b:Frame}{a:Act}{cs:List Frame}(bI:P.follows .mixedOrders=true)(hc:fT P B YR)(hl:∀t a,YQ<|YR t a){af:AF}{x:br}(bD:Fr ρ af b a)(ax:At B ρ s af.nt af.tmps w a)(hf:dB s.nx s1.nx ρ)(h:zy P YR u af s= .ok x s1):lV P B ρ s s1 w af b cs (lone (b.atR a af.todo) cs w) x:=by
 unfold zy at h;cases e:Nat.beq u 1 with
 |true=>simp only[e] at h;exact Si bI hc hl _ bD ax hf h
 |false=>simp only[e] at h;exact Mx bI hc hl _ _ bD ax hf h
theorem Rz{g:FuncId}{fr:AF}{s2 s3:AS}(cm:P.funcs[g]? =some fn)(cw:fn.body=some body)(zY:bC s2)(hw:∀cs:List Frame,lV P B ρ s s2 w ⟨g,dc args,max fn.ntmps args.length,[.code body],[],none⟩ {(default:Frame) with fn:=g,kind:=.normal,roundOf:=none} cs
 (lone (({(default:Frame) with fn:=g,kind:=.normal,roundOf:=none}:Frame).atR {tmps:=vs++Array.replicate (fn.ntmps - vs.size) undef,defers:=[]} [.code body]) cs w) (.leave fr j))(pK:finish P fn.results.toList fr j s2= .ok x s3):Calls P g vs w fun e w'=>∃v,e= .returned v/\km B ρ s s3 w x v w':=by
 intro cs;let b:Frame:={(default:Frame) with fn:=g,kind:=.normal,roundOf:=none};let a:Act:={tmps:=vs++Array.replicate (fn.ntmps - vs.size) undef,defers:=[]};have xm:Frame.enter P g vs .normal=b.atR a [.code body]:=by simp[Frame.enter,Frame.atR,cm,cw,b,a]
 obtain⟨σ,a',w',e1,e2,e3,e4,⟨e5,El,alZ⟩,e6,e7,e8⟩:=hw cs;obtain⟨hj,u2,s4,rs,h7,h9,hx⟩:=Mc pK;have o6:bC s4:=(YQ.qZ _).cn zY h7;have pU:Leaves j fr.todo:=e7;obtain⟨d1,d2,w2,d3,d4,d5⟩:=Hw (P:=P) (fr:=b) (cs:=cs) zY e2.rel e3 h7;obtain⟨f1,f2,us,f3,f4⟩:=Ht (P:=P) (w:=w2) e2.tr o6 d3 h9;have Gp:Steps P (lone (b.atR a' fr.todo) cs w')<|lone {b.atR a' fr.todo with mode:=.returning} cs w':=by
  rcases hj with rfl|rfl
  ·have e:fr.todo=[]:=pU;rw[e];exact .one<|stepR_end rfl
  ·obtain⟨k,e⟩:=pU;rw[e];exact .one<|stepR_ret rfl
 have xG:=d5 {b.atR a' fr.todo with mode:=.returning} cs jI rfl;have lE:(results fn a'.tmps).run P w2= .ok (oq us) w2:=by
  unfold results;rw[Array.mapM_eq_mapM_toList];simp only[Sem.run_bind,map_eq_pure_bind,Sem.run_pure];refine Eq.trans (congrArg (fun r:Result (List Value)=>(r.andThen fun a w'=>Result.ok a.toArray w').andThen fun a w'=>Result.ok (if h:a.size=1 then a[0] else Value.tuple a) w') f3) ?_;have:∀l:List Value,(Result.ok (if h:l.toArray.size=1 then l.toArray[0] else Value.tuple l.toArray) w2:Result Value)= .ok (oq l) w2:=by
   intro l
   match l with
   |[]=>rfl
   |[v]=>rfl
   |v::v2::l=>simp[oq]
  exact this us
 refine⟨.returned<|oq us,w2,{b.atR a' fr.todo with mode:=.returning,defers:=[]},⟨_,rfl,?_⟩,?_,rfl,?_⟩
 ·exact⟨σ,by rw[show s3.nx=s2.nx by rw[f2,d1]];exact e1,by rw[hx];exact My f4,by rw[f1];exact d3,e4.trans d4⟩
 ·rw[xm];exact Steps.trans e8<|Steps.trans Gp xG
 ·exact⟨rfl,rfl,rfl,fn,cm,lE⟩
theorem abU(bI:P.follows .mixedOrders=true)(hc:fT P B YR)(hl:∀t a,YQ<|YR t a){f:FuncId}(cm:P.funcs[f]? =some fn)(cw:fn.body=some body)(dF:(fn.name == "runtime.NumGoroutine")=false)(fP:iw body)(fi:bC s)(r:Rel B ρ s.h w)(hg:gD ρ)(hf:dB s.nx s1.nx ρ)(h:Ds P u f fn.ntmps fn.results.toList body YR args s= .ok x s1)(hv:ay ρ args vs.toList):jk P ((callFunc f vs).run P w)<|km B ρ s s1 w x:=by
 have bH:(callFunc f vs).run P w= .ok (.enter f vs) w:=by
  have F3:(program).run P w= .ok P w:=rfl;have hn:fn.name≠ "runtime.NumGoroutine" :=by simpa using dF
  simp only[callFunc,Sem.run_bind,F3,Result.andThen_ok,cm,dF,cw];simp
 rw[bH];unfold Ds at h;obtain⟨h1,h2⟩:=cX h;have oP:=aK.1 h1;obtain⟨y,s2,h3,h4⟩:=M.aN h2;cases y with
 |go fr=>cases h4
 |leave fr j=>have G4:finish P fn.results.toList fr j s2= .ok x s1:=h4;have dz:=(YQ.zy P hl u ⟨f,dc args,max fn.ntmps args.length,[.code body],[],none⟩).cn fi h3;have BY:=(YQ.finish P fn.results.toList fr j).le dz G4;exact Rz cm cw dz (fun cs=>abT (b:={(default:Frame) with fn:=f,kind:=.normal,roundOf:=none}) (a:={tmps:=vs++Array.replicate (fn.ntmps - vs.size) undef,defers:=[]}) (cs:=cs) bI hc hl ⟨rfl,rfl,trivial,rfl,.cons fP .nil⟩ ⟨Hx hv _ oP,r,hg,oP,fi⟩ (hf.sub (Nat.le_refl _) BY) h3) G4
structure bS (P:Program):Prop where
 mixed:P.follows .mixedOrders=true
 code:∀(f:FuncId) (fn:Func) (body:Code),P.funcs[f]? =some fn->fn.body=some body->iw body
def Vy(_:Program)(_:aI)(_:FuncId->Nat):Prop:=True
theorem TC(hP:bS P){j9:FuncId->Nat}(hw:Vy P B j9):∀(n:Nat),fT P B (zA P j9 n)
 |0=>⟨(fun f args x s s1 ρ w vs _ _ _ _ h _=>by cases h),(fun l b N args x s s1 ρ w vs _ _ _ _ h _ _=>by cases h),(fun n o k x s s1 ρ w _ _ h=>by cases h)⟩
 |n+1=>by
  have ih:=TC hP hw n;refine⟨fun f args x s s1 ρ w vs fi r hg hf h hv=>?_,fun l b N args x s s1 ρ w vs fi r hg hf h hv hl=>aaM hP.mixed ih (HH P j9 n) fi r hg hf h hv hl,fun n o k x s s1 ρ w _ _ h=>by cases h⟩;have h':(GP P j9 f).val (zA P j9 n) args s= .ok x s1:=h;unfold GP at h';cases e1:P.funcs[f]? with
  |none=>rw[e1] at h';cases h'
  |some fn=>
   rw[e1] at h';cases e2:fn.body with
   |none=>simp only[e2] at h';cases h'
   |some body=>
    simp only[e2] at h';cases e3:(fn.name == "runtime.NumGoroutine") with
    |true=>simp only[e3] at h';cases h'
    |false=>simp only[e3] at h';exact abU hP.mixed ih (HH P j9 n) e1 e2 e3 (hP.code f fn body e1 e2) fi r hg hf h' hv
end
end Go.Rn
namespace Go.Rn
theorem sameKey_eq{a b:AV}(h:sameKey a b=some true):a=b:=by
 unfold sameKey at h;split at h<;>first|(cases h;done)|skip
 ·rename_i k x k' y;cases hk:decide (k=k') with
  |false=>rw[hk] at h;cases h
  |true=>
   rw[hk] at h;injection h with h
   have e1:=of_decide_eq_true hk;have e2:x=y:=by simpa using h
   rw[e1,e2]
 ·rename_i x y;injection h with h
  obtain⟨x⟩:=x;obtain⟨y⟩:=y;have e:x=y:=by have h':(x == y)=true:=h;exact eq_of_beq h'
  rw[e]
 ·rename_i x y;injection h with h
  have e:x=y:=by simpa using h
  rw[e]
end Go.Rn

namespace Go.Rn
open Go.RowKit
noncomputable section
def dX(P:Program)(YR:aJ)(k:Nat):AF->M br:= @Nat.rec (fun _=>AF->M br) (fun fr=>M.pure<|.go fr) (fun _ ih fr=>(je P YR fr).bind fun x=> @br.rec (fun _=>M br) ih (fun fr j=>M.pure<|.leave fr j) x) k
def sP:List Nat->Code->Code
 |[],c=>c
 |0::l,.seq a _=>sP l a
 |_::l,.seq _ b=>sP l b
 |0::l,.cond _ a _=>sP l a
 |_::l,.cond _ _ b=>sP l b
 |_::l,.block _ b=>sP l b
 |_::l,.loop b=>sP l b
 |_::l,.scope b=>sP l b
 |0::l,.rangeFunc _ _ a _=>sP l a
 |_::l,.rangeFunc _ _ _ b=>sP l b
 |_::_,c=>c
def getAll(h:Tr ae):List Nat->List (Option ae)
 |[]=>[]
 |n::ns=>h.get n::getAll h ns
def TE:List (Option ae)->Bool
 |[]=>true
 |none::l=>TE l
 |some o::l=>match o.plain with
  |true=>TE l
  |false=>false
def Om(m:Nat):List Nat->Bool
 |[]=>true
 |n::l=>match Nat.blt n m with
  |true=>Om m l
  |false=>false
end
theorem Md{m:Nat}:∀{l:List Nat},Om m l=true->∀n∈l,n<m
 |[],_,n,h=>by cases h
 |a::l,hp,n,h=>by
  unfold Om at hp;split at hp
  ·rename_i e;rcases List.mem_cons.1 h with rfl|h
   ·rw[←blt_eq];exact e
   ·exact Md hp n h
  ·cases hp
section
variable {P:Program} {B:aI} {ρ:Ren} {w:World} {s s1:AS} {YR:aJ} {b:Frame} {a:Act} {cs:List Frame}
theorem YQ.dX(P:Program){YR:aJ}(bH:∀t a,YQ<|YR t a):∀(k:Nat) (fr:AF),YQ (dX P YR k fr)
 |0,fr=>YQ.pure _
 |k+1,fr=>by
  refine YQ.bind (YQ.je P bH fr) fun x=>?_;cases x with
  |go fr=>exact YQ.dX P bH k fr
  |leave fr j=>exact YQ.pure _
theorem Ih(bI:P.follows .mixedOrders=true)(hc:fT P B YR)(hl:∀t a,YQ<|YR t a):∀(k:Nat) {ρ:Ren} {w:World} {s s1:AS} {a:Act} {af:AF} {x:br},Fr ρ af b a->At B ρ s af.nt af.tmps w a->dB s.nx s1.nx ρ->
 dX P YR k af s= .ok x s1->lV P B ρ s s1 w af b cs (lone (b.atR a af.todo) cs w) x
 |0,ρ,w,s,s1,a,af,x,bD,ax,hf,h=>by obtain⟨rfl,rfl⟩:=bB (show M.pure (.go af) s= .ok x s1 from h);exact CA bD ax rfl rfl ⟨rfl,rfl,rfl⟩ bD.ok trivial<|Steps.refl _ _
 |k+1,ρ,w,s,s1,a,af,x,bD,ax,hf,h=>by
  obtain⟨y,s2,h1,h2⟩:=M.aN (show((je P YR af).bind fun x=> @br.rec (fun _=>M br) (dX P YR k) (fun fr j=>M.pure<|.leave fr j) x) s= .ok x s1 from h);have lh:=(YQ.je P hl af).le ax.cn h1;have dz:=(YQ.je P hl af).cn ax.cn h1;cases y with
  |go fr=>have rW:dX P YR k fr s2= .ok x s1:=h2;have pS:=(YQ.dX P hl k fr).le dz rW;have w1:=EY (b:=b) (cs:=cs) bI hc hl bD ax (hf.sub (Nat.le_refl _) pS) h1;exact w1.JO bD lh pS fun σ a' w' e1 Bv Bw=>Ih bI hc hl k Bv Bw (hf.next lh e1) rW
  |leave fr j=>obtain⟨rfl,rfl⟩:=bB (show M.pure (.leave fr j) s2= .ok x s1 from h2);exact EY bI hc hl bD ax hf h1
theorem ac6{h:Tr ae}{nx:Nat}(hb:Nat.ble nx top=true):bC ⟨h,nx,0,[],[]⟩:=⟨Nat.zero_le _,aK.1 hb⟩
end
end Go.Rn
namespace Go.Rn
open Go.RowKit
variable {J:Nat} {v:Value} {b a:AV}
structure Start (J:Nat) (h0:Tr ae) (ρ:Ren) (w:World):Prop where
 g:gD ρ
 free:∀k,J<=k->ρ k=none
 is:∀n o,n<top->h0.get n=some o->o.mL=true/\∃b N o',ρ n=some (b,N)/\w.heap[b]? =some o'/\OR ρ N o o'
theorem Start.rel{h0:Tr ae}{ρ:Ren}{w:World}(S:Start J h0 ρ w)(ht:J<=top):Rel (aeA w) ρ h0 w:=by
 refine⟨fun n o hn h=>?_,fun n m o p b N M hn hm h1 h2 cS _ _=>?_,fun n m es ex left cur hn h=>?_,fun _ hk=>hk,fun i j m es ex left cur gY iW iH iJ hi _ h1 _=>?_,fun n b sh e=>absurd (S.free _<|Nat.le_trans ht<|gf n b sh) e,uf.no (fun n k v hn hg=>by have:=(S.is n _ hn hg).1;cases this) ⟨Nat.le_refl _,fun n o hn hg _=>by obtain⟨_,b,N,o',h1,h2,_⟩:=S.is n o hn hg;exact⟨b,N,h1,ib h2⟩⟩⟩
 ·obtain⟨hr,b,N,o',h1,h2,h3⟩:=S.is n o hn h;have hr:=ae.ki hr;exact⟨b,N,o',h1,h2,h3,fun q=>by rw[hr] at q;cases q⟩
 ·have e1:=ae.ki (S.is n o hn h1).1;have e2:=ae.ki (S.is m p hm h2).1;rcases cS with q|q
  ·rw[e1] at q;cases q
  ·rw[e2] at q;cases q
 ·have:=(S.is n _ hn h).1;cases this
 ·have:=(S.is i _ hi h1).1;cases this
section
variable {P:Program} {B:aI} {ρ:Ren} {w:World} {s s1:AS} {YR:aJ}
end
noncomputable section
def DO(J:Nat):AV->AV->Bool
 | .nilFunc,.nilFunc=>true
 | .func (.func f) [] [],.func (.func g) [] []=>Nat.beq f g
 | .slice none 0 (.known 0),.slice none 0 (.known 0)=>true
 | .U a b c,.U d e f=>and (Nat.beq a d)<|and (Nat.beq b e)<|and (Nat.beq c f)<|and (Nat.blt d J)<|Nat.blt d top
 |x,y=>match sameKey x y with
  |some true=>true
  |_=>false
def Fu(J:Nat)(t u:Tr AV):Nat->Bool
 |0=>true
 |i+1=>match t.get i,u.get i with
  |some a,some b=>and (DO J a b)<|Fu J t u i
  |_,_=>false
def ou(J:Nat):ae->ae->Bool
 | .ro m t,.ro n u=>and (Nat.beq m n)<|Fu J t u n
 | .tz m t,.tz n u=>and (Nat.beq m n)<|Fu J t u n
 |_,_=>false
def fI(J:Nat)(h0:Tr ae):List Nat->M Unit
 |[]=>M.pure ()
 |n::ns=>(bu n).bind fun o=>aA (h0.get n) fun p=>aF (ou J o p) <| fI J h0 ns
end
theorem YQ.fI(J:Nat)(h0:Tr ae):∀ns,YQ (fI J h0 ns)
 |[]=>YQ.pure _
 |n::ns=>YQ.bind (YQ.bu n) fun _=>YQ.aA fun _ _=>YQ.aF fun _=>YQ.fI J h0 ns
theorem TF{ρ:Ren}(h:DO J a b=true)(hv:VR ρ a v):VR (fun k=>if k<J then ρ k else none) b v:=by
 unfold DO at h;split at h
 ·simp only[VR] at hv ⊢;exact hv
 ·rename_i f g;have:f=g:=eA.1 h;subst this;simp only[VR,ay] at hv ⊢;exact hv
 ·simp only[VR] at hv ⊢;exact hv
 ·obtain⟨q1,q2⟩:=and_true.1 h;obtain⟨q3,q4⟩:=and_true.1 q2;obtain⟨q5,q6⟩:=and_true.1 q4;have e1:=eA.1 q1;have e2:=eA.1 q3;have e3:=eA.1 q5;subst e1;subst e2;subst e3;obtain⟨q6,q7⟩:=and_true.1 q6;have cf:=(blt_eq _ _).mp q6;have eY:=(blt_eq _ _).mp q7;simp only[VR] at hv ⊢;rcases hv with hv|⟨b,sh,c,h1,h2⟩
  ·exact .inl hv
  ·exact .inr ⟨b,sh,c,.inl ⟨by omega,(if_pos cf).trans<|h1.low aj⟩,h2⟩
 ·split at h
  ·rename_i e;have:=sameKey_eq e;subst this;unfold sameKey at e;split at e<;>first|(cases e;done)|(simp only[VR] at hv ⊢;exact hv)
  ·cases h
theorem L5{J:Nat}{t u:Tr AV}:∀{n:Nat},Fu J t u n=true->∀i,i<n->∃a b,t.get i=some a/\u.get i=some b/\DO J a b=true
 |0,_,i,hi=>by omega
 |n+1,h,i,hi=>by
  unfold Fu at h;split at h
  ·rename_i a b e1 e2;obtain⟨q1,q2⟩:=and_true.1 h;by_cases q:i=n
   ·subst q;exact⟨a,b,e1,e2,q1⟩
   ·exact L5 q2 i aj
  ·cases h
theorem Sj{ρ:Ren}(h:DO J a b=true)(_:VR ρ a v):b.bR=true:=by
 unfold DO at h;split at h
 ·rfl
 ·rfl
 ·rfl
 ·rfl
 ·split at h
  ·rename_i e;have:=sameKey_eq e;subst this;unfold sameKey at e;split at e<;>first|(cases e;done)|rfl
  ·cases h
theorem Z2{N:Nat}{ρ:Ren}{o p:ae}{o':Obj}(h:ou J o p=true)(hO:OR ρ N o o'):p.mL=true/\OR (fun k=>if k<J then ρ k else none) N p o':=by
 unfold ou at h;split at h
 ·rename_i m t n u;obtain⟨q1,q2⟩:=and_true.1 h;have e1:=eA.1 q1;subst e1;obtain⟨c,e,fr,rfl,h1,h2,row⟩:=hO;refine⟨rfl,c,e,fr,rfl,h1,h2,fun i hi=>?_⟩;obtain⟨x,v,a1,a2,a3,a4⟩:=row i hi;obtain⟨a,b,b1,b2,b3⟩:=L5 q2 i hi;rw[a1] at b1;cases b1;exact⟨b,v,b2,Sj b3 a4,a3,TF b3 a4⟩
 ·rename_i m t n u;obtain⟨q1,q2⟩:=and_true.1 h;have e1:=eA.1 q1;subst e1;obtain⟨c,e,fr,rfl,row⟩:=hO;refine⟨rfl,c,e,fr,rfl,fun i hi=>?_⟩;obtain⟨x,v,a1,a2,a3,a4⟩:=row i hi;obtain⟨a,b,b1,b2,b3⟩:=L5 q2 i hi;rw[a1] at b1;cases b1;exact⟨b,v,b2,Sj b3 a4,a3,TF b3 a4⟩
 ·cases h
theorem uI{J:Nat}{h0:Tr ae}:∀{ns:List Nat} {s s1:AS} {u:Unit},fI J h0 ns s= .ok u s1->s1.h=s.h/\s1.nx=s.nx/\∀n∈ns,n<s.nx/\∃o p,s.h.get n=some o/\h0.get n=some p/\ou J o p=true
 |[],s,s1,u,h=>by obtain⟨_,rfl⟩:=bB (show M.pure () s= .ok u s1 from h);exact⟨rfl,rfl,fun n hn=>by cases hn⟩
 |m::ns,s,s1,u,h=>by
  obtain⟨o,s2,h1,h2⟩:=M.aN (show((bu m).bind fun o=>aA (h0.get m) fun p=>aF (ou J o p) <| fI J h0 ns) s= .ok u s1 from h);obtain⟨a1,a2,a3,a4⟩:=fX h1;obtain⟨p,h3,h4⟩:=bw h2;obtain⟨h5,h6⟩:=cX h4;obtain⟨b1,b2,b3⟩:=uI h6;refine⟨b1.trans a3,b2.trans a4,fun n hn=>?_⟩;rcases List.mem_cons.1 hn with rfl|hn
  ·exact⟨a1,o,p,a2,h3,h5⟩
  ·obtain⟨c1,q1,q2,c2,c3,c4⟩:=b3 n hn;exact⟨by rw[←a4];exact c1,q1,q2,by rw[←a3];exact c2,c3,c4⟩
end Go.Rn
namespace Go.Rn
open Go.RowKit
section
variable {P:Program} {B:aI} {ρ:Ren} {w:World} {s s1:AS} {YR:aJ}
end
end Go.Rn
namespace Go.Rn
open Go.RowKit
noncomputable section
end
section
variable {P:Program} {YR:aJ}
end
end Go.Rn
namespace Go.Rn
open Go.RowKit
variable {k o n:Nat} {x:AV} {aO:AF} {f:FuncId} {vs:Array Value} {j:Option Code} {fn:Func} {body:Code} {args:List AV} {F:Nat->Option (List AV)}
noncomputable section
def br.UA:br->Bool
 | .go _=>false
 | .leave _ _=>true
def pv(P:Program)(YR:aJ)(fr:AF):M br:=fun s=> @dite (R br) (∃k,∃x s1,dX P YR k fr s= .ok x s1/\x.UA=true) (Classical.propDecidable _) (fun h=>dX P YR h.choose fr s) fun _=>.bad
def u6(P:Program)(f ntmps:Nat)(rs:List ResultVar)(body:Code)(YR:aJ)(args:List AV):M AV:=
 aF (Nat.ble (max ntmps args.length) top) <|
 (pv P YR ⟨f,dc args,max ntmps args.length,[.code body],[],none⟩).bind fun st=> @br.rec (fun _=>M AV) (fun _=>fail) (fun fr j=>finish P rs fr j) st
def wM(P:Program)(YR:aJ)(l:Nat)(args:List AV):M AV:=(getLoop l).bind fun o=>match o with
 | .loop _ _ fn t nt ps a b _=>
  aF (and (Nat.beq args.length ps.length)<|ps.all fun p=>Nat.blt p nt) <|
  (pv P YR ⟨fn,jz ps args t,nt,[.code a,.beginRound,.code b],[],some l⟩).bind fun st=> @br.rec (fun _=>M AV) (fun _=>fail) (fun _ j=>endRound l j) st
 |_=>fail
abbrev Sp:=FuncId->Option (aJ->List AV->M AV)
def jK(P:Program)(sp:Sp)(f:FuncId):aJ->List AV->M AV:=
 match sp f with
 |some m=>m
 |none=>match P.funcs[f]? with
  |none=>fun _ _=>fail
  |some fn=>match fn.body with
   |none=>fun _ _=>fail
   |some body=>match fn.name == "runtime.NumGoroutine" with
    |true=>fun _ _=>fail
    |false=>u6 P f fn.ntmps fn.results.toList body
def qB(F:Nat->Option (List AV))(n o k:Nat):M AV:=aA (F n) fun l=>aF (Nat.ble (o+k) l.length) <| M.pure<|.agg<|(l.drop o).take k
def aZ(P:Program)(sp:Sp)(F:Nat->Option (List AV)):Nat->aJ
 |0=>fun t _=>match t with
  | .row n o k=>qB F n o k
  |_=>fail
 |n+1=>fun t args=>match t with
  | .fn f=>jK P sp f (aZ P sp F n) args
  | .round l=>wM P (aZ P sp F n) l args
  | .row n o k=>qB F n o k
end
section
variable {P:Program} {B:aI} {ρ:Ren} {w:World} {s s1:AS} {YR:aJ} {b:Frame} {a:Act} {cs:List Frame}
theorem SY{fr:AF}:dX P YR (k+1) fr s=((je P YR fr).bind fun x=> @br.rec (fun _=>M br) (dX P YR k) (fun fr j=>M.pure<|.leave fr j) x) s:=rfl
theorem AM{fr:AF}(h:je P YR fr s= .ok (.go aO) s1):dX P YR (k+1) fr s=dX P YR k aO s1:=by rw[SY,M.bL h]
theorem abV{fr:AF}(h:je P YR fr s= .ok (.leave aO j) s1):dX P YR (k+1) fr s= .ok (.leave aO j) s1:=by rw[SY,M.bL h];rfl
theorem Mz:∀{k k':Nat} {fr aO:AF} {j:Option Code} {s s1:AS},dX P YR k fr s= .ok (.leave aO j) s1->k<=k'->dX P YR k' fr s= .ok (.leave aO j) s1
 |0,_,_,_,_,_,_,h,_=>by cases h
 |k+1,0,_,_,_,_,_,_,hk=>by omega
 |k+1,k'+1,fr,aO,j,s,s1,h,hk=>by
  obtain⟨y,s2,h1,h2⟩:=M.aN (show((je P YR fr).bind fun x=> @br.rec (fun _=>M br) (dX P YR k) (fun fr j=>M.pure<|.leave fr j) x) s= .ok _ s1 from h);cases y with
  |go pV=>rw[AM h1];exact Mz (show dX P YR k pV s2=_ from h2) aj
  |leave pV j'=>rw[abV h1];exact h2
theorem HU{fr:AF}(h:dX P YR k fr s= .ok (.leave aO j) s1):pv P YR fr s= .ok (.leave aO j) s1:=by
 have hex:∃k,∃x s1,dX P YR k fr s= .ok x s1/\x.UA=true:=⟨k,_,_,h,rfl⟩;unfold pv;rw[dif_pos hex];obtain⟨x,s2,h1,h2⟩:=hex.choose_spec;cases x with
 |go _=>cases h2
 |leave kv j2=>have e1:=Mz h1<|Nat.le_max_left hex.choose k;have e2:=Mz h<|Nat.le_max_right hex.choose k;rw[e1] at e2;rw[h1,e2]
theorem Sk{fr:AF}{x:br}(h:pv P YR fr s= .ok x s1):∃k aO j,x= .leave aO j/\dX P YR k fr s= .ok (.leave aO j) s1:=by
 unfold pv at h;split at h
 ·rename_i hex;obtain⟨y,s2,h1,h2⟩:=hex.choose_spec;cases y with
  |go _=>cases h2
  |leave kv j2=>rw[h1] at h;cases h;exact⟨_,kv,j2,rfl,h1⟩
 ·cases h
theorem YQ.pv(P:Program){YR:aJ}(hl:∀t a,YQ<|YR t a)(fr:AF):YQ<|pv P YR fr:=by intro s v s1 fi h;obtain⟨k,aO,j,rfl,h1⟩:=Sk h;obtain⟨dr,dw,d,al⟩:=YQ.dX P hl k fr s _ s1 fi h1;refine⟨dr,dw,d,fun A m0 t ag hA=>?_⟩;obtain⟨t1,e1,e2⟩:=al A m0 t ag hA;exact⟨t1,HU e1,e2⟩
theorem YQ.u6(P:Program)(f n:Nat)(rs:List ResultVar)(body:Code){YR:aJ}(bH:∀t a,YQ<|YR t a)(args:List AV):YQ<|u6 P f n rs body YR args:=
 YQ.aF (fun _=>YQ.bind (YQ.pv P bH _) (fun x=>by
  cases x with
  |go fr=>exact YQ.fail
  |leave fr j=>exact YQ.finish P rs fr j))
theorem YQ.wM(P:Program){YR:aJ}(bH:∀t a,YQ<|YR t a)(l:Nat)(args:List AV):YQ<|wM P YR l args:=by
 unfold Rn.wM;refine YQ.bind (YQ.getLoop _) fun o=>?_;split
 ·exact YQ.aF fun _=>YQ.bind (YQ.pv P bH _) (fun x=>by
   cases x with
   |go fr=>exact YQ.fail
   |leave fr j=>exact YQ.endRound l j)
 ·exact YQ.fail
structure Kj (P:Program) (B:aI) (sp:Sp):Prop where
 loc:∀f m,sp f=some m->∀YR:aJ,(∀t a,YQ<|YR t a)->∀args,YQ<|m YR args
 Em:∀f m,sp f=some m->∀YR:aJ,fT P B YR->(∀t a,YQ<|YR t a)->∀(args:List AV) (x:AV) (s s1:AS) (ρ:Ren) (w:World) (vs:Array Value),bC s->Rel B ρ s.h w->gD ρ->dB s.nx s1.nx ρ->
  m YR args s= .ok x s1->ay ρ args vs.toList->jk P ((callFunc f vs).run P w) (km B ρ s s1 w x)
theorem rp{sp:Sp}{m:aJ->List AV->M AV}(h:sp f=some m):jK P sp f=m:=by unfold jK;rw[h]
theorem Nf{sp:Sp}(h:sp f=none)(cm:P.funcs[f]? =some fn)(cw:fn.body=some body)(dF:(fn.name == "runtime.NumGoroutine")=false):jK P sp f=u6 P f fn.ntmps fn.results.toList body:=by unfold jK;simp only[h,cm,cw,dF]
theorem SZ(sp:Sp)(f:FuncId):(∃m,sp f=some m/\jK P sp f=m)\/(jK P sp f=fun _ _=>fail)\/(∃fn body,P.funcs[f]? =some fn/\fn.body=some body/\(fn.name == "runtime.NumGoroutine")=false/\jK P sp f=u6 P f fn.ntmps fn.results.toList body):=by
 cases e:sp f with
 |some m=>exact .inl ⟨m,rfl,rp e⟩
 |none=>
  cases e1:P.funcs[f]? with
  |none=>refine .inr<|.inl ?_;unfold jK;simp only[e,e1]
  |some fn=>
   cases e2:fn.body with
   |none=>refine .inr<|.inl ?_;unfold jK;simp only[e,e1,e2]
   |some body=>
    cases e3:(fn.name == "runtime.NumGoroutine") with
    |true=>refine .inr<|.inl ?_;unfold jK;simp only[e,e1,e2,e3]
    |false=>exact .inr<|.inr ⟨fn,body,rfl,e2,e3,Nf e e1 e2 e3⟩
theorem aaN(P:Program){sp:Sp}(hs:Kj P B sp)(f:FuncId){YR:aJ}(hl:∀t a,YQ<|YR t a)(args:List AV):YQ<|jK P sp f YR args:=by
 rcases SZ (P:=P) sp f with⟨m,e1,e2⟩|e|⟨fn,body,e1,e2,e3,e⟩
 ·rw[e2];exact hs.loc f m e1 YR hl args
 ·rw[e];exact YQ.fail
 ·rw[e];exact YQ.u6 P _ _ _ _ hl _
theorem YQ.qB(F:Nat->Option (List AV))(n o k:Nat):YQ<|qB F n o k:=YQ.aA fun _ _=>YQ.aF fun _=>YQ.pure _
theorem Cx(P:Program){sp:Sp}(hs:Kj P B sp)(F:Nat->Option (List AV)):∀(n:Nat) (t:GN) (args:List AV),YQ (aZ P sp F n t args)
 |0,.fn _,_=>YQ.fail
 |0,.round _,_=>YQ.fail
 |0,.row n o k,_=>YQ.qB F n o k
 |n+1,.fn f,args=>aaN P hs f (fun t a=>Cx P hs F n t a) args
 |n+1,.round l,args=>YQ.wM P (fun t a=>Cx P hs F n t a) l args
 |_+1,.row n o k,_=>YQ.qB F n o k
theorem Vz{ρ:Ren}{c:Array Value}:∀{l:List AV} {off:Nat},(∀(i:Nat) (x:AV),l[i]? =some x->∃v,c[off+i]? =some v/\VR ρ x v)->∃vs:List Value,vs.length=l.length/\ay ρ l vs/\∀(j:Nat) (v:Value),vs[j]? =some v->c[off+j]? =some v
 |[],off,_=>⟨[],rfl,by simp only[ay],fun j v h=>by simp at h⟩
 |x::l,off,h=>by
  obtain⟨v,h1,h2⟩:=h 0 x rfl;obtain⟨vs,g1,g2,g3⟩:=Vz (l:=l) (off:=off+1) (fun i y hy=>by obtain⟨u,k1,k2⟩:=h (i+1) y (by simpa using hy);exact⟨u,by rw[Nat.add_assoc,Nat.add_comm 1 i];exact k1,k2⟩);refine⟨v::vs,by simp[g1],by simp only[ay];exact⟨v,vs,rfl,h2,g2⟩,fun j u hj=>?_⟩;cases j with
  |zero=>simp at hj;subst hj;simpa using h1
  |succ j=>have:=g3 j u (by simpa using hj);rw[Nat.add_assoc,Nat.add_comm 1 j] at this;exact this
theorem abW(h:qB F n o k s= .ok x s1):s1=s/\∃l,F n=some l/\o+k<=l.length/\x= .agg ((l.drop o).take k):=by unfold qB at h;obtain⟨l,h1,h2⟩:=bw h;obtain⟨h3,h4⟩:=cX h2;obtain⟨rfl,rfl⟩:=bB h4;exact⟨rfl,l,h1,aK.1 h3,rfl⟩
theorem TG(hF:B.F=F)(r:Rel B ρ s.h w)(h:qB F n o k s= .ok x s1):
 s1.h=s.h/\s1.nx=s.nx/\∀b sh,ρ (hn n b sh)≠none->∃l vs,x= .agg l/\vs.length=k/\ay ρ l vs/\∃c e fr,w.heap[b]? =some (.cells c e fr)/\∀(j:Nat) (v:Value),vs[j]? =some v->c[sh+o+j]? =some v:=by
 obtain⟨rfl,l,h1,h2,rfl⟩:=abW h;rw[←hF] at h1;refine⟨rfl,rfl,fun b sh hb=>?_⟩;obtain⟨_,l',c,e,fr,g1,g2,_,g4⟩:=r.fz n b sh hb;rw[h1] at g1;cases g1;obtain⟨vs,q1,q2,q3⟩:=Vz (ρ:=ρ) (c:=c) (l:=(l.drop o).take k) (off:=sh+o) (fun i y hy=>by
  have v7:l[o+i]? =some y:=by
   rw[List.getElem?_take] at hy;split at hy
   ·rw[List.getElem?_drop] at hy;exact hy
   ·cases hy
  obtain⟨v,k1,k2,_⟩:=g4 (o+i) y v7;exact⟨v,by rw[Nat.add_assoc];exact k1,VR.mono (Ja ρ) _ _ k2⟩)
 refine⟨_,vs,rfl,?_,q2,c,e,fr,g2,q3⟩;rw[q1,List.length_take,List.length_drop];omega
theorem Sl(bI:P.follows .mixedOrders=true)(hc:fT P B YR)(hl:∀t a,YQ<|YR t a){af:AF}{x:br}(bD:Fr ρ af b a)(ax:At B ρ s af.nt af.tmps w a)(hf:dB s.nx s1.nx ρ)(h:pv P YR af s= .ok x s1):lV P B ρ s s1 w af b cs (lone (b.atR a af.todo) cs w) x:=by obtain⟨k,aO,j,rfl,h1⟩:=Sk h;exact Ih bI hc hl k bD ax hf h1
theorem aaO(bI:P.follows .mixedOrders=true)(hc:fT P B YR)(hl:∀t a,YQ<|YR t a)(cm:P.funcs[f]? =some fn)(cw:fn.body=some body)(dF:(fn.name == "runtime.NumGoroutine")=false)(fP:iw body)(fi:bC s)(r:Rel B ρ s.h w)(hg:gD ρ)(hf:dB s.nx s1.nx ρ)(h:u6 P f fn.ntmps fn.results.toList body YR args s= .ok x s1)(hv:ay ρ args vs.toList):jk P ((callFunc f vs).run P w)<|km B ρ s s1 w x:=by
 have bH:(callFunc f vs).run P w= .ok (.enter f vs) w:=by
  have F3:(program).run P w= .ok P w:=rfl;have hn:fn.name≠ "runtime.NumGoroutine" :=by simpa using dF
  simp only[callFunc,Sem.run_bind,F3,Result.andThen_ok,cm,dF,cw];simp
 rw[bH];unfold u6 at h;obtain⟨h1,h2⟩:=cX h;have oP:=aK.1 h1;obtain⟨y,s2,h3,h4⟩:=M.aN h2;cases y with
 |go fr=>cases h4
 |leave fr j=>have G4:finish P fn.results.toList fr j s2= .ok x s1:=h4;have dz:=(YQ.pv P hl ⟨f,dc args,max fn.ntmps args.length,[.code body],[],none⟩).cn fi h3;have BY:=(YQ.finish P fn.results.toList fr j).le dz G4;exact Rz cm cw dz (fun cs=>Sl (b:={(default:Frame) with fn:=f,kind:=.normal,roundOf:=none}) (a:={tmps:=vs++Array.replicate (fn.ntmps - vs.size) undef,defers:=[]}) bI hc hl ⟨rfl,rfl,trivial,rfl,.cons fP .nil⟩ ⟨Hx hv _ oP,r,hg,oP,fi⟩ (hf.sub (Nat.le_refl _) BY) h3) G4
theorem Z3(bI:P.follows .mixedOrders=true)(hc:fT P B YR)(hl:∀t a,YQ<|YR t a){l bl N:Nat}(fi:bC s)(r:Rel B ρ s.h w)(hg:gD ρ)(hf:dB s.nx s1.nx ρ)(h:wM P YR l args s= .ok x s1)(hv:ay ρ args vs.toList)(BZ:ρ l=some (bl,N)):jk P ((Instr.yield bl vs).run P w)<|km B ρ s s1 w x:=by
 unfold wM at h;obtain⟨o,s2,h1,h2⟩:=M.aN h;obtain⟨h3,st,bN,fn,t,nt,ps,aa,bb,d,rfl⟩:=Cw h1;obtain⟨h4,h5⟩:=cX h2;obtain⟨y,s3,h6,h7⟩:=M.aN h5;obtain⟨q1,q2⟩:=and_true.1 h4;have hlen:=eA.1 q1;have Qu:∀p∈ps,p<nt:=fun p hp=>by have:=List.all_eq_true.1 q2 p hp;rw[←blt_eq];exact this
 obtain⟨hx,iS,hh,ct⟩:=fX h3;have dz:bC s2:=(YQ.bu _).cn fi h3;have cf:l<top:=Nat.lt_of_lt_of_le hx fi.nx;obtain⟨o',hb,hO,hB⟩:=r.block cf iS BZ;obtain⟨ta,db,M,rfl,yp,iX,hd,eY⟩:=hO;have Ol:(Instr.yield bl vs).run P w= .ok (.round bl fn ((ps.zip vs.toList).foldl (fun tmps (t,a)=>tmps.setIfInBounds t a) ta) aa bb) w:=by
  have ku:¬(vs.size≠ps.toArray.size):=by have:=hv.length;simp at this ⊢;omega
  simp only[Instr.yield,Sem.run_bind,Ct hb,Result.andThen_ok,if_neg ku,Sem.run_pure];rw[←Array.foldl_toList];simp
 rw[Ol];intro c cs;cases y with
 |go fr=>cases h7
 |leave fr j=>
  have BU:endRound l j s3= .ok x s1:=h7;let b:Frame:={(default:Frame) with fn:=fn,kind:=.normal,roundOf:=some bl};let a:Act:={tmps:=(ps.zip vs.toList).foldl (fun tmps (t,a)=>tmps.setIfInBounds t a) ta,defers:=[]};have ju:=(YQ.pv P hl ⟨fn,jz ps args t,nt,[.code aa,.beginRound,.code bb],[],some l⟩).cn dz h6;have B0:=(YQ.endRound l j).le ju BU;have bD:Fr ρ ⟨fn,jz ps args t,nt,[.code aa,.beginRound,.code bb],[],some l⟩ b a:=⟨rfl,rfl,⟨N,BZ⟩,rfl,.cons eY.assign<|.cons trivial<|.cons eY.body .nil⟩;have ax:At B ρ s2 nt (jz ps args t) w a:=⟨LL iX yp hv Qu,by rw[hh];exact r,hg,iX,dz⟩;obtain⟨σ,a',w',e1,e2,e3,e4,_,_,e6,e7⟩:=Sl (cs:=c::cs) bI hc hl bD ax (by rw[ct];exact hf.sub (Nat.le_refl _) B0) h6;have iY:Leaves j fr.todo:=e6;obtain⟨f1,rfl,nk,f2,f3,f4⟩:=RK (P:=P) ju e2.rel (e1.le _ _ BZ) iY.code BU;refine⟨.bool j.isNone,nk,⟨σ,by rw[f1, ←ct];exact e1,by simp only[VR],f3,e4.trans f4⟩,?_⟩;have xm:Frame.round bl fn ((ps.zip vs.toList).foldl (fun tmps (t,a)=>tmps.setIfInBounds t a) ta) aa bb .normal=b.atR a [.code aa,.beginRound,.code bb]:=rfl;rw[xm];refine Steps.trans e7<|.one ?_;show step P (lone (b.atR a' fr.todo) (c::cs) w')=_;unfold Leaves at iY;split at iY
  ·rw[iY];exact stepR_round_end rfl rfl f2
  ·obtain⟨k,e⟩:=iY;rw[e];exact stepR_round_ret rfl rfl f2
  ·obtain⟨k,e,e'⟩:=iY;rw[e];exact stepR_round_exit rfl rfl e' f2
  ·obtain⟨k,e,e'⟩:=iY;rw[e];exact stepR_round_goto rfl rfl e' f2
  ·cases iY
theorem S0(hP:bS P){sp:Sp}(hs:Kj P B sp){F:Nat->Option (List AV)}(hF:B.F=F):∀(n:Nat),fT P B (aZ P sp F n)
 |0=>⟨(fun f args x s s1 ρ w vs _ _ _ _ h _=>by cases h),(fun l b N args x s s1 ρ w vs _ _ _ _ h _ _=>by cases h),(fun n o k x s s1 ρ w _ r h=>TG hF r h)⟩
 |n+1=>by
  have ih:=S0 hP hs hF n;refine⟨fun f args x s s1 ρ w vs fi r hg hf h hv=>?_,fun l b N args x s s1 ρ w vs fi r hg hf h hv hl=>Z3 hP.mixed ih (Cx P hs F n) fi r hg hf h hv hl,(fun n o k x s s1 ρ w _ r h=>TG hF r h)⟩;have h':jK P sp f (aZ P sp F n) args s= .ok x s1:=h;rcases SZ (P:=P) sp f with⟨m,e1,e2⟩|e|⟨fn,body,e1,e2,e3,e⟩
  ·rw[e2] at h';exact hs.Em f m e1 _ ih (Cx P hs F n) args x s s1 ρ w vs fi r hg hf h' hv
  ·rw[e] at h';cases h'
  ·rw[e] at h';exact aaO hP.mixed ih (Cx P hs F n) e1 e2 e3 (hP.code f fn body e1 e2) fi r hg hf h' hv
end
end Go.Rn
namespace Go.Rn
open Go.RowKit
variable {r:Nat->Nat} {k:Nat} {σ:Ren}
def bp(r:Nat->Nat)(x y:AV):Prop:=∀(ρ:Ren) (v:Value),VR ρ x v->VR (fun k=>ρ<|r k) y v
def lW(r:Nat->Nat)(x y:ae):Prop:=∀(ρ:Ren) (N:Nat) (o:Obj),OR ρ N x o->OR (fun k=>ρ<|r k) N y o
def au(P:Program)(B:aI)(J:Nat)(Q:Tr AV->List Nat->Option Code->AS->Prop)(fr:AF)(s:AS):Prop:=∀(ρ:Ren) (w:World) (b:Frame) (a:Act) (cs:List Frame),Fr ρ fr b a->At B ρ s fr.nt fr.tmps w a->(∀k,s.nx<=k->k<top->ρ k=none)->∃(aO:AF) (j:Option Code) (s1:AS) (σ:Ren) (a':Act) (w':World),Q aO.tmps aO.defers j s1/\J<=s1.nx/\(∀k,k<J->k<top->σ k=ρ k)/\(∀k x,top<=k->ρ k=some x->σ k=some x)/\(∀k,s1.nx<=k->k<top->σ k=none)/\At B σ s1 fr.nt aO.tmps w' a'/\vL σ aO.defers a'.defers/\cx B w w'/\(aO.fn=fr.fn/\aO.nt=fr.nt/\aO.round=fr.round)/\jC aO.todo/\Leaves j aO.todo/\Steps P (lone (b.atR a fr.todo) cs w) (lone (b.atR a' aO.todo) cs w')
section
variable {P:Program} {B:aI} {J:Nat} {Q:Tr AV->List Nat->Option Code->AS->Prop} {ρ:Ren} {w:World} {s s1 s2:AS} {YR:aJ} {fr aO:AF} {j:Option Code}
theorem au.chunk(bI:P.follows .mixedOrders=true)(hc:fT P B YR)(hl:∀t a,YQ<|YR t a)(h:dX P YR k fr s= .ok (.go aO) s1)(h0:J<=s.nx)(H:au P B J Q aO s1):au P B J Q fr s:=by intro ρ w b a cs bD ax hf;have lh:=(YQ.dX P hl k fr).le ax.cn h;have Qp:=((YQ.dX P hl k fr).cn ax.cn h).nx;obtain⟨σ,a1,w1,e1,e2,e3,e4,⟨e5,e6,e7⟩,e8,_,e9⟩:=Ih (b:=b) (cs:=cs) bI hc hl k bD ax (fun k h1 _ h3=>hf k h1 h3) h;have El:aO.fn=fr.fn:=e5;have iY:aO.nt=fr.nt:=e6;have pU:aO.round=fr.round:=e7;obtain⟨kv,j,s2,τ,a2,w2,q0,qn,q1,G5,q2,q3,q4,q5,⟨q6,q7,q8⟩,q9,Qz,QA⟩:=H σ w1 b a1 cs ⟨bD.fn.trans El.symm,bD.kind,by rw[pU];exact bD.round.mono e1.le,e3,e8⟩ (by rw[iY];exact e2) fun k hk ht=>(e1.out k ht aj).trans<|hf k aj ht;exact⟨kv,j,s2,τ,a2,w2,q0,qn,fun k hk gu=>(q1 k hk gu).trans<|e1.out k gu aj,fun k x hk hx=>G5 k x hk<|e1.le _ _ hx,q2,by rw[←iY];exact q3,q4,e4.trans q5,⟨q6.trans El,q7.trans iY,q8.trans pU⟩,q9,Qz,Steps.trans e9 QA⟩
theorem au.leave(bI:P.follows .mixedOrders=true)(hc:fT P B YR)(hl:∀t a,YQ<|YR t a)(h:dX P YR k fr s= .ok (.leave aO j) s1)(h0:J<=s.nx)(hq:Q aO.tmps aO.defers j s1):au P B J Q fr s:=by intro ρ w b a cs bD ax hf;have lh:=(YQ.dX P hl k fr).le ax.cn h;have Qp:=((YQ.dX P hl k fr).cn ax.cn h).nx;obtain⟨σ,a1,w1,e1,e2,e3,e4,⟨e5,e6,e7⟩,e8,e10,e9⟩:=Ih (b:=b) (cs:=cs) bI hc hl k bD ax (fun k h1 _ h3=>hf k h1 h3) h;exact⟨aO,j,s1,σ,a1,w1,hq,Nat.le_trans h0 lh,fun k hk gu=>e1.out k gu aj,fun k x _ hx=>e1.le _ _ hx,fun k hk ht=>(e1.out k ht aj).trans<|hf k aj ht,e2,e3,e4,⟨e5,e6,e7⟩,e8,e10,e9⟩
abbrev lF:=List<|Nat×Nat×List AV
def Marks(fz:lF)(ρ fG:Ren):Prop:=ρ.le fG/\(∀k,k<top->fG k=ρ k)/\∀p∈fz,∀b N,ρ p.1=some (b,N)->fG (hn p.2.1 b 0)≠none
open Classical in
noncomputable def marks(fz:lF)(ρ:Ren):Ren:=fun k=>if ρ k=none/\∃p∈fz,∃b N,ρ p.1=some (b,N)/\k=hn p.2.1 b 0 then some (0,0) else ρ k
theorem TH(fz:lF)(ρ:Ren):Marks fz ρ<|marks fz ρ:=by
 refine⟨fun k x e=>?_,fun k hk=>?_,fun p hp b N e=>?_⟩
 ·unfold marks;rw[if_neg (fun q=>by rw[e] at q;cases q.1)];exact e
 ·unfold marks;rw[if_neg (fun⟨_,p,_,b,N,_,q⟩=>by have:=gf p.2.1 b 0;omega)]
 ·unfold marks;by_cases q:ρ (hn p.2.1 b 0)=none
  ·rw[if_pos ⟨q,p,hp,b,N,e,rfl⟩];exact fun h=>by cases h
  ·rw[if_neg fun z=>q z.1];exact q
theorem S2{fz:lF}{ρ:Ren}(h:marks fz ρ k≠none):ρ k≠none\/∃p∈fz,∃b N,ρ p.1=some (b,N)/\k=hn p.2.1 b 0:=by
 unfold marks at h;split at h
 ·rename_i q;exact .inr q.2
 ·exact .inl h
def jF(fz:lF)(r:Nat->Nat)(x y:AV):Prop:=∀(ρ fG:Ren) (v:Value),Marks fz ρ fG->VR ρ x v->VR (fun k=>fG<|r k) y v
def fD(fz:lF)(r:Nat->Nat)(x y:ae):Prop:=∀(ρ fG:Ren) (N:Nat) (o:Obj),Marks fz ρ fG->OR ρ N x o->OR (fun k=>fG<|r k) N y o
theorem bp.z{fz:lF}{x y:AV}(h:bp r x y):jF fz r x y:=fun ρ fG v m hv=>h fG v<|VR.mono m.1 _ _ hv
theorem lW.z{fz:lF}{x y:ae}(h:lW r x y):fD fz r x y:=fun ρ fG N o m hv=>h fG N o<|hv.mono m.1
def Wf(F:Nat->Option (List AV))(h:Tr ae)(p:Nat×Nat×List AV):Prop:=p.1<top/\F p.2.1=some p.2.2/\∃N t z,h.get p.1=some (.cells N t z)/\∀i x,p.2.2[i]? =some x->i<N/\cellAt t z i=some x/\x.bR=true/\∀ρ v,VR ρ x v->VR (gp ρ) x v
def qC(l:List<|AV×AV):Prop:=∀p∈l,∃a b,p=(.int .i64 a,.int .i64 b)
def Wg(r:Nat->Nat)(h h2:Tr ae)(n:Nat)(o2:ae):Prop:=o2.kj=true\/(r n=n/\h.get n=some o2/\match o2 with
 | .iy=>True
 | .iter m es _ left cur=>r m=m/\h2.get m=some .iy/\qC es/\qC left/\∀x,cur=some x->qC [x]
 |_=>False)
theorem On{ρ:Ren}{l:List<|AV×AV}(hl:qC l){p:AV×AV}(hp:p∈l){a b:Value}(h1:VR ρ p.1 a)(h2:VR ρ p.2 b):VR σ p.1 a/\VR σ p.2 b:=by obtain⟨x,y,rfl⟩:=hl p hp;simp only[VR] at h1 h2 ⊢;exact⟨h1,h2⟩
theorem UB{ρ σ:Ren}:∀{l:List<|AV×AV} {es:List MapEntry} {i:Nat},qC l->j0 ρ l es i->j0 σ l es i
 |[],_,_,_,k=>k
 |x::l,_,i,hl,k=>by obtain⟨e,es,r,a,b,c,d⟩:=k;obtain⟨a',b'⟩:=On hl List.mem_cons_self a b;exact⟨e,es,r,a',b',c,UB (fun p hp=>hl p<|List.mem_cons_of_mem _ hp) d⟩
theorem NL{ρ σ:Ren}:∀{l:List<|AV×AV} {es:List MapEntry},qC l->dP ρ l es->dP σ l es
 |[],_,_,k=>k
 |x::l,_,hl,k=>by obtain⟨e,es,r,a,b,d⟩:=k;obtain⟨a',b'⟩:=On hl List.mem_cons_self a b;exact⟨e,es,r,a',b',NL (fun p hp=>hl p<|List.mem_cons_of_mem _ hp) d⟩
theorem aaP{ρ:Ren}{w:World}{n m:Nat}{es left:List<|AV×AV}{ex:Bool}{cur:Option<|AV×AV}(k:mV ρ w n m es ex left cur)(e1:σ n=ρ n)(e2:σ m=ρ m)(q1:qC es)(q2:qC left)(q3:∀x,cur=some x->qC [x]):mV σ w n m es ex left cur:=by
 obtain⟨b,N,bm,M,l,bq,seen,h1,h2,h3,h4,h5,h6,h7,⟨l',h8,h8'⟩,h9⟩:=k;refine⟨b,N,bm,M,l,bq,seen,e1.trans h1,e2.trans h2,h3,h4,h5,fun e=>⟨(h6 e).1,UB q1 (h6 e).2⟩,fun e=>⟨(h7 e).1,?_⟩,⟨l',h8,NL q2 h8'⟩,?_⟩
 ·obtain⟨l2,a,b⟩:=(h7 e).2;exact⟨l2,a,NL q1 b⟩
 ·cases cur with
  |none=>exact h9
  |some x=>obtain⟨e,a,b,c,d⟩:=h9;obtain⟨c',d'⟩:=On (q3 x rfl) List.mem_cons_self c d;exact⟨e,a,b,c',d'⟩
theorem Rel.ahO{B:aI}{ρ:Ren}{h h2:Tr ae}{w:World}(fz:lF)(R:Rel B ρ h w)(B4:∀k,top<=k->r k=k)(hz:∀p∈fz,Wf B.F h p)(hh:∀n o2,n<top->h2.get n=some o2->r n<top/\Wg r h h2 n o2/\∃o1,h.get (r n)=some o1/\fM o1 o2/\fD fz r o1 o2)(xG:∀p∈fz,∀n o2,n<top->h2.get n=some o2->r n≠p.1)(DP:∀n m o p,n<top->m<top->h2.get n=some o->h2.get m=some p->r n=r m->n=m):Rel B (fun k=>marks fz ρ<|r k) h2 w:=by
 have hm:=TH fz ρ;refine⟨fun n o hn hg=>?_,fun n m o p b N M hn fc hg lk cS e1 e2=>?_,fun n m es ex left cur hn hg=>?_,R.size,fun i j m es ex left cur gY iW iH iJ hi rY hg lk=>?_,fun n b sh e=>?_,?_⟩
 ·obtain⟨a1,_,o1,a3,a4,a5⟩:=hh n o hn hg;obtain⟨b,N,o',b1,b2,b3,b4⟩:=R.is (r n) o1 a1 a3;exact⟨b,N,o',(hm.2.1 _ a1).trans b1,b2,a5 ρ _ N o' hm b3,fun q=>b4<|a4.1 q⟩
 ·obtain⟨a1,_,o1,a3,a4,_⟩:=hh n o hn hg;obtain⟨c1,_,p1,c3,c4,_⟩:=hh m p fc lk;have e1:marks fz ρ (r n)=some (b,N):=e1;have e2:marks fz ρ (r m)=some (b,M):=e2;rw[hm.2.1 _ a1] at e1;rw[hm.2.1 _ c1] at e2;exact DP n m o p hn fc hg lk<|R.one (r n) (r m) o1 p1 b N M a1 c1 a3 c3 (cS.imp a4.1 c4.1) e1 e2
 ·rcases(hh n _ hn hg).2.1 with q|⟨q1,q2,q3,q4,q5,q6,q7⟩
  ·simp[ae.kj] at q
  ·obtain⟨i1,i2,i3⟩:=R.iter n m es ex left cur hn q2;exact⟨i1,q4,aaP i3 (by show marks fz ρ (r n)=_;rw[q1];exact hm.2.1 n hn) (by show marks fz ρ (r m)=_;rw[q3];exact hm.2.1 m i1) q5 q6 q7⟩
 ·rcases(hh i _ hi hg).2.1 with q|⟨_,q2,_⟩
  ·simp[ae.kj] at q
  ·rcases(hh j _ rY lk).2.1 with q'|⟨_,QB,_⟩
   ·simp[ae.kj] at q'
   ·exact R.lone i j m es ex left cur gY iW iH iJ hi rY q2 QB
 ·have e:marks fz ρ (r<|hn n b sh)≠none:=e;rw[B4 _<|gf _ _ _] at e;have hle:(gp ρ).le<|gp fun k=>marks fz ρ<|r k:=by
   intro k x e;unfold gp at e ⊢;split at e
   ·rename_i q;rw[if_pos q];show marks fz ρ (r k)=some x;rw[B4 k q];exact hm.1 _ _ e
   ·cases e
  rcases S2 e with e|⟨p,hp,b',N,e1,e2⟩
  ·obtain⟨g0,l,c,e',fr,g1,g3,g4,g5⟩:=R.fz n b sh e;refine⟨g0,l,c,e',fr,g1,g3,fun m o N fc hg cr hr=>?_,fun i x hx=>by obtain⟨v,k1,k2,k3⟩:=g5 i x hx;exact⟨v,k1,VR.mono hle _ _ k2,k3⟩⟩;obtain⟨a1,_,o1,a3,a4,_⟩:=hh m o fc hg;exact g4 (r m) o1 N a1 a3 (a4.1 cr) (by have hr:marks fz ρ (r m)=_:=hr;rw[hm.2.1 _ a1] at hr;exact hr)
  ·obtain⟨rfl,rfl,rfl⟩:=I9 e2;obtain⟨z1,z2,N0,t,z,z3,z4⟩:=hz p hp;obtain⟨b1,N1,o',k1,k2,k3,k4⟩:=R.is p.1 _ z1 z3;rw[e1] at k1;cases k1;obtain⟨c,et,rfl,_,_,row⟩:=k3;refine⟨.inr<|k4 rfl,p.2.2,c,et,_,z2,k2,fun m o M fc hg cr hr=>?_,fun i x hx=>?_⟩
   ·obtain⟨a1,_,o1,a3,a4,_⟩:=hh m o fc hg;have hr:marks fz ρ (r m)=_:=hr;rw[hm.2.1 _ a1] at hr;exact xG p hp m o fc hg<|R.one (r m) p.1 o1 _ _ _ _ a1 z1 a3 z3 (.inl<|a4.1 cr) hr e1
   ·obtain⟨i1,i2,i3,i4⟩:=z4 i x hx;obtain⟨x',v,j1,j2,j3,j4⟩:=row i i1;rw[i2] at j1;cases j1;exact⟨v,by rw[Nat.zero_add];exact j3,VR.mono hle _ _<|i4 _ _ j4,i3⟩
 ·obtain⟨k0,H,k1,k2⟩:=R.tk;have hle:∀m x,top<=m->ρ m=some x->marks fz ρ (r m)=some x:=fun m x kg e=>by rw[B4 m kg];exact hm.1 _ _ e
  have tok:∀n k v,n<top->h2.get n=some (.tok k v)->r n<top/\h.get (r n)=some (.tok k v):=fun n k v hn hg=>by obtain⟨a1,_,o1,a3,a4,_⟩:=hh n _ hn hg;rw[a4.2.1 rfl] at a3;exact⟨a1,a3⟩
  refine⟨⟨k0.1,fun n o hn hg hf=>?_⟩,fun n=>H<|r n,fun n k v hn hg=>?_,fun n m x k v k' v' hn fc g1 g2 ch=>?_⟩
  ·obtain⟨a1,_,o1,a3,a4,a5⟩:=hh n o hn hg;obtain⟨b,N,e1,e2⟩:=k0.2 (r n) o1 a1 a3<|a4.2.2 hf;exact⟨b,N,(hm.2.1 _ a1).trans e1,e2⟩
  ·obtain⟨a1,a2⟩:=tok n k v hn hg;obtain⟨b,N,c1,c2,c3,c4⟩:=k1 (r n) k v a1 a2;refine⟨b,N,(hm.2.1 _ a1).trans c1,B.mono c2 hle fun _ _=>rfl,c3,fun x hx=>?_⟩;obtain⟨d1,d2,d3,d4⟩:=c4 x hx;refine⟨d1,d2,fun m o M fc lk cr hr=>?_,fun j sh=>?_⟩
   ·obtain⟨e1,_,o1,e3,e4,_⟩:=hh m o fc lk;exact d3 (r m) o1 M e1 e3 (e4.1 cr) (by have hr:marks fz ρ (r m)=_:=hr;rw[hm.2.1 _ e1] at hr;exact hr)
   ·show marks fz ρ (r<|Rn.hn j x sh)=none;rw[B4 _<|gf _ _ _];refine Classical.byContradiction fun q=>?_;rcases S2 q with q|⟨p,hp,b',N',e1,e2⟩
    ·exact q<|d4 j sh
    ·obtain⟨_,rfl,_⟩:=I9 e2;obtain⟨z1,_,N0,t,z,z3,_⟩:=hz p hp;exact d3 p.1 _ N' z1 z3 rfl e1
  ·obtain⟨a1,a2⟩:=tok n k v hn g1;obtain⟨a3,a4⟩:=tok m k' v' fc g2;exact k2 (r n) (r m) x k v k' v' a1 a3 a2 a4 fun e=>ch<|DP n m _ _ hn fc g1 g2 e
theorem au.weaken{t2:Tr AV}(fz:lF)(r:Nat->Nat)(h0:∀k,k<J->r k=k)(h1:∀k,s2.nx<=k->k<top->s.nx<=r k/\r k<top)(B4:∀k,top<=k->r k=k)(hg:fL<=J)(hf2:bC s2)(hd:fr.defers=[])(hr:fr.round=none)(hz:∀p∈fz,Wf B.F s.h p)(ht:∀i y,t2.get i=some y->∃x,fr.tmps.get i=some x/\jF fz r x y)(hh:∀n o2,n<top->s2.h.get n=some o2->r n<top/\Wg r s.h s2.h n o2/\∃o1,s.h.get (r n)=some o1/\fM o1 o2/\fD fz r o1 o2)(xG:∀p∈fz,∀n o2,n<top->s2.h.get n=some o2->r n≠p.1)(DP:∀n m o p,n<top->m<top->s2.h.get n=some o->s2.h.get m=some p->r n=r m->n=m)(H:au P B J Q {fr with tmps:=t2} s2):au P B J Q fr s:=by
 intro ρ w b a cs bD ax hf;have hm:=TH fz ρ;have nE:FH (fun k=>marks fz ρ<|r k) fr.round b.roundOf:=by
  have:=bD.round;rw[hr] at this ⊢;cases hb:b.roundOf with
  |none=>trivial
  |some l=>rw[hb] at this;cases this
 have aga:vL (fun k=>marks fz ρ<|r k) fr.defers a.defers:=by have:=bD.defs;rw[hd] at this ⊢;exact this
 have cO:∀k,k<J->k<top->marks fz ρ (r k)=ρ k:=fun k hk gu=>by rw[h0 k hk];exact hm.2.1 k gu
 have agb:gD fun k=>marks fz ρ<|r k:=fun g iE=>by obtain⟨N,e⟩:=ax.g g iE;exact⟨N,(cO g (Nat.lt_of_lt_of_le iE hg)<|Nat.lt_of_lt_of_le iE (by unfold fL top;decide)).trans e⟩
 have yp:TR (fun k=>marks fz ρ<|r k) fr.nt t2 a.tmps:=⟨ax.tr.1,fun i y hy=>by obtain⟨x,e1,e2⟩:=ht i y hy;exact e2 ρ _ _ hm<|ax.tr.2 i x e1⟩;obtain⟨kv,j,s3,τ,a2,w2,q0,qn,q1,G5,q2,q3,q4,q5,q6,q7,q8,q9⟩:=H (fun k=>marks fz ρ<|r k) w b a cs ⟨bD.fn,bD.kind,nE,aga,bD.ok⟩ ⟨yp,ax.rel.ahO fz B4 hz hh xG DP,agb,ax.nt,hf2⟩ fun k hk ht=>(hm.2.1 _ (h1 k hk ht).2).trans<|hf _ (h1 k hk ht).1 (h1 k hk ht).2;exact⟨kv,j,s3,τ,a2,w2,q0,qn,fun k hk gu=>(q1 k hk gu).trans<|cO k hk gu,fun k x hk hx=>G5 k x hk (by show marks fz ρ (r k)=_;rw[B4 k hk];exact hm.1 _ _ hx),q2,q3,q4,q5,q6,q7,q8,q9⟩
end
end Go.Rn
