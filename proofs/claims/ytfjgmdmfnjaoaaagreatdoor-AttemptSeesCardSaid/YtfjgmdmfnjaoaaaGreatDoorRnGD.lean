import Derived.Test.YtfjgmdmfnjaoaaaGreatDoorRnGC
import Derived.Orders
import Derived.RangeFuncIn
import Derived.RangeFuncLeaves
import GoSem.Extern.MapsClone
import Derived.Maps.RangeRun
set_option maxRecDepth 100000
set_option maxHeartbeats 8000000
set_option linter.unusedSimpArgs false
set_option linter.unusedVariables false
namespace Go.Rn
open Go.RowKit
variable {nt i:Nat} {a:Act} {ops:Array Oper} {t1:Tr AV} {dst:Option Tmp}
section
variable {P:Program} {B:aL} {ρ:aw} {w:World} {s s1:AS} {x:AV} {YO:aK} {t:Tr AV} {o:Oper}
theorem SQ{f:AV}{args:List AV}{vf:Value}{vs:Array Value}(hc:fP P B YO)(hg:gb ρ)(fi:bD s)(r:Rel B ρ s.h w)(hf:dF s.nx s1.nx ρ)(yh:VR ρ f vf)(hl:aA ρ args vs.toList)(h4:mY YO f args s= .ok x s1):jk P ((do let d ←Deferred.ofValue vf vs;invoke d.target d.args:Sem Next).run P w)<|j8 B ρ s s1 w x:=by
 unfold mY at h4;split at h4
 ·rename_i g first captured
  obtain⟨_,p,q,e,hp,hq⟩:=yh.TC;have Pa:aA ρ (first++args++captured) (p++vs++q).toList:=by rw[Array.toList_append,Array.toList_append];exact(hp.append hl).append hq
  have:=hc.fn g _ x s s1 ρ w _ fi r hg hf h4 Pa;simp only[Deferred.ofValue,e,Sem.run_bind,Sem.run_pure,Result.andThen_ok,invoke];exact this
 ·rename_i n;have kh:=yh;simp only[VR] at kh;obtain⟨b,N,hn,e⟩:=kh;have:=hc.round n b N _ x s s1 ρ w vs fi r hg hf h4 hl hn;simp only[Deferred.ofValue,e,Sem.run_bind,Sem.run_pure,Result.andThen_ok,invoke];simpa using this
 ·cases h4
theorem Sc{R:Value->World->Prop}(ho:ops[i]? =some o)(hw:Region.wanted o (yielded ops a.tmps)=true)(hd:∀c,o.op≠ .defer c)(h:jk P ((execOp a.eval o).run P w) R)(b:Frame)(k:List Item)(cs:List Frame)(rest:List Nat):
 ∃v w',R v w'/\Steps P (lone (b.atR a<|.inRegion ops (i::rest)::k) cs w) (lone (b.atR (a.put o.dst v)<|.inRegion ops rest::k) cs w'):=by
 have hg:=stepGR_op (P:=P) (b:=b) (k:=k) (cs:=cs) (w:=w) (rest:=rest) ho hw;rw[Oper.semAt_eq _ _ _ hd] at hg;have pG:∀v,(b.atR a<|.inRegion ops (i::rest)::k).finish v=b.atR (a.put o.dst v) (.inRegion ops rest::k):=by intro v;rw[Frame.finish_atR,ho];rfl
 generalize hr:(execOp a.eval o).run P w=res at h;unfold jk at h;split at h
 ·rename_i v w';refine⟨v,w',h,.one<|step_lone_go ?_⟩;rw[hg, ←pG];simp[stepG.apply,hr]
 ·rename_i w';refine⟨undef,w',h,.one<|step_lone_go ?_⟩;rw[hg, ←pG];simp[stepG.apply,hr]
 ·rename_i f args w';obtain⟨e,nj,fr,⟨v,rfl,hR⟩,Bf,cq,Ow⟩:=h<|b.atR a (.inRegion ops (i::rest)::k)::cs;have Bg:step P (lone (b.atR a<|.inRegion ops (i::rest)::k) cs w)= .next (lone (Frame.enter P f args .normal) (b.atR a (.inRegion ops (i::rest)::k)::cs) w'):=step_lone_go (by rw[hg];simp[stepG.apply,hr,Frame.atR])
  refine⟨v,nj,hR,.head Bg<|Steps.trans Bf<|.one ?_⟩;rw[←pG];exact step_leave_returned Ow
 ·rename_i l f tmps assign body w';obtain⟨v,nj,hR,Bf⟩:=h (b.atR a<|.inRegion ops (i::rest)::k) cs;have Bg:step P (lone (b.atR a<|.inRegion ops (i::rest)::k) cs w)= .next (lone (Frame.round l f tmps assign body .normal) (b.atR a (.inRegion ops (i::rest)::k)::cs) w'):=step_lone_go (by rw[hg];simp[stepG.apply,hr,Frame.atR])
  refine⟨v,nj,hR,.head Bg ?_⟩;rw[←pG];exact Bf
 ·cases h
theorem ZE(ht:TR ρ nt t a.tmps)(j:Nat)(hk:te ops t j=true):yielded ops a.tmps j=Fy ops t j:=by
 unfold te at hk;unfold yielded Fy;cases e1:ops[j]? with
 |none=>rfl
 |some q=>
  rw[e1] at hk;simp only[Option.bind_some];simp only at hk;cases e2:q.dst with
  |none=>rfl
  |some d=>
   rw[e2] at hk;simp only[Option.bind_some];simp only at hk;cases e4:t.get d with
   |none=>rw[e4] at hk;cases hk
   |some y=>
    have hv:=ht.2 d y e4;rw[Array.getD_eq_getD_getElem?] at hv;cases e3:a.tmps[d]? with
    |none=>rw[e3] at hv;cases y<;>first|rfl|(exfalso;simp only[Option.getD_none,VR,Go.undef] at hv;cases hv)
    |some v=>
     rw[e3] at hv;simp only[Option.getD_some] at hv;cases v with
     |bool c=>rw[UB hv]
     |_=>cases y<;>first|rfl|(exfalso;simp only[VR] at hv;cases hv)
theorem ZF{g:Nat×Bool}(ht:TR ρ nt t a.tmps)(hg:o.guard=some g)(hk:te ops t g.1=true):Region.wanted o (yielded ops a.tmps)=qg ops g t:=by
 unfold Region.wanted qg;rw[hg];simp only[ZE ht g.1 hk];cases Fy ops t g.1 with
 |none=>rfl
 |some b=>cases b<;>cases g.2<;>rfl
theorem CU{v:AV}(h:ji nt t dst v=some t1):(dst=none/\t1=t)\/∃d,dst=some d/\d<nt/\t1=t.put d (some v):=by
 cases dst with
 |none=>injection h with h;exact .inl ⟨rfl,h.symm⟩
 |some d=>
  have h': @Bool.rec (fun _=>Option<|Tr AV) none (some<|t.put d<|some v) (Nat.blt d nt)=some t1:=h;rw[yP] at h';by_cases q:d<nt
  ·rw[if_pos q] at h';injection h' with h';exact .inr ⟨d,rfl,q,h'.symm⟩
  ·rw[if_neg q] at h';cases h'
theorem IC{y:AV}{v:Value}(ht:TR ρ nt t a.tmps)(iY:nt<=top)(h:ji nt t dst y=some t1)(hv:VR ρ y v):TR ρ nt t1 (a.put dst v).tmps/\(a.put dst v).defers=a.defers:=by
 rcases CU h with⟨rfl,rfl⟩|⟨d,rfl,hd,rfl⟩
 ·exact⟨ht,rfl⟩
 ·exact⟨ht.set hd iY hv,rfl⟩
structure At (B:aL) (ρ:aw) (s:AS) (nt:Nat) (t:Tr AV) (w:World) (a:Act):Prop where
 tr:TR ρ nt t a.tmps
 rel:Rel B ρ s.h w
 g:gb ρ
 nt:nt<=top
 cO:bD s
def D8(P:Program)(B:aL)(ρ:aw)(s s1:AS)(nt:Nat)(t1:Tr AV)(w:World)(a:Act)(m:Machine)(m':Act->World->Machine):Prop:=∃σ a' w',Ext s.nx s1.nx ρ σ/\At B σ s1 nt t1 w' a'/\a'.defers=a.defers/\cL B w w'/\Steps P m (m' a' w')
theorem TE(hc:fP P B YO)(hl:∀t a,YN<|YO t a)(ho:ops[i]? =some o)(aB:At B ρ s nt t w a)(hf:dF s.nx s1.nx ρ)(h:gN P YO nt ops o t s= .ok t1 s1)(b:Frame)(k:List Item)(cs:List Frame)(rest:List Nat):
 D8 P B ρ s s1 nt t1 w a (lone (b.atR a<|.inRegion ops (i::rest)::k) cs w) (fun a' w'=>lone (b.atR a'<|.inRegion ops rest::k) cs w'):=by
 have main:∀(f:(dI P o.op).val YO t s=(dI P o.op).val YO t s),Region.wanted o (yielded ops a.tmps)=true->sb (dI P o.op) o.dst YO nt t s= .ok t1 s1->
  D8 P B ρ s s1 nt t1 w a (lone (b.atR a<|.inRegion ops (i::rest)::k) cs w) (fun a' w'=>lone (b.atR a'<|.inRegion ops rest::k) cs w'):=by
  intro _ hw hk;unfold sb at hk;obtain⟨v,s2,h1,h2⟩:=M.aR hk;obtain⟨h3,rfl⟩:=hU h2;obtain⟨hd,hb⟩:=afc hc hl aB.tr aB.g aB.cO aB.rel hf h1;obtain⟨u,w',⟨σ,e1,e2,e3,e4⟩,st⟩:=Sc ho hw hd hb b k cs rest;obtain⟨q1,q2⟩:=IC (aB.tr.mono e1.le) aB.nt h3 e2;exact⟨σ,a.put o.dst u,w',e1,⟨q1,e3,aB.g.mono e1.le,aB.nt,(YN.Hc P hl t o.op).cO aB.cO h1⟩,q2,e4,st⟩
 unfold gN Bv at h;cases hg:o.guard with
 |none=>rw[hg] at h;exact main rfl (by unfold Region.wanted;rw[hg]) h
 |some g=>
  rw[hg] at h;have h':tJ ops g (dI P o.op) o.dst YO nt t s= .ok t1 s1:=h;unfold tJ at h';obtain⟨hk,h'⟩:=cZ h';have hw:=ZF (ops:=ops) aB.tr hg hk;cases q:qg ops g t with
  |true=>rw[q] at h' hw;exact main rfl hw h'
  |false=>rw[q] at h' hw;obtain⟨h3,rfl⟩:=hU (show lift (ji nt t o.dst qi) s= .ok t1 s1 from h');obtain⟨q1,q2⟩:=IC aB.tr aB.nt h3<|VR.undef ρ;have hs:=stepR_op_skip (P:=P) (b:=b) (a:=a) (k:=k) (cs:=cs) (w:=w) (ops:=ops) (i:=i) (rest:=rest) (by simp[ho];simpa using hw);simp only[ho,Option.bind_some] at hs;exact⟨ρ,a.put o.dst undef,w,Ext.refl _ _ _,⟨q1,aB.rel,aB.g,aB.nt,aB.cO⟩,q2,cL.refl _ _,.one hs⟩
theorem Nm{ops:Array Oper}{nt:Nat}(hc:fP P B YO)(hl:∀t a,YN<|YO t a)(b:Frame)(k:List Item)(cs:List Frame):∀(n i:Nat) (l:List Oper) {t t1:Tr AV} {s s1:AS} {ρ:aw} {a:Act} {w:World},l.length=n->ops.toList.drop i=l->
 At B ρ s nt t w a->dF s.nx s1.nx ρ->jj P YO nt ops l t s= .ok t1 s1->
 D8 P B ρ s s1 nt t1 w a (lone (b.atR a<|.inRegion ops (List.range' i n)::k) cs w) (fun a' w'=>lone (b.atR a' k) cs w')
 |0,i,l,t,t1,s,s1,ρ,a,w,hn,_,aB,_,h=>by have:l=[]:=List.eq_nil_of_length_eq_zero hn;subst this;obtain⟨rfl,rfl⟩:=bK (show M.pure t s= .ok t1 s1 from h);exact⟨ρ,a,w,Ext.refl _ _ _,aB,rfl,cL.refl _ _,.one stepR_region_end⟩
 |n+1,i,l,t,t1,s,s1,ρ,a,w,hn,lZ,aB,hf,h=>by
  cases l with
  |nil=>cases hn
  |cons o l=>
   obtain⟨t2,s2,h1,h2⟩:=M.aR (show((gN P YO nt ops o t).bind<|jj P YO nt ops l) s= .ok t1 s1 from h);have ho:ops[i]? =some o:=by
    have:(ops.toList.drop i)[0]? =some o:=by rw[lZ];rfl
    rw[List.getElem?_drop] at this;simpa using this
   have agC:ops.toList.drop (i+1)=l:=by rw[←List.drop_drop,lZ];rfl
   have mU:s.nx<=s2.nx:=(YN.gN P hl nt ops o t).le aB.cO h1;have eG:bD s2:=(YN.gN P hl nt ops o t).cO aB.cO h1;have pT:s2.nx<=s1.nx:=(YN.jj P hl nt ops l t2).le eG h2;obtain⟨σ,a',w',e1,e2,e3,e4,e5⟩:=TE hc hl ho aB (hf.sub (Nat.le_refl _) pT) h1 b k cs<|List.range' (i+1) n;obtain⟨τ,Hk,nj,f1,f2,f3,f4,f5⟩:=Nm hc hl b k cs n (i+1) l (by simpa using hn) agC e2 (hf.next mU e1) h2;exact⟨τ,Hk,nj,e1.trans mU pT f1,f2,f3.trans e3,e4.trans f4,by rw[List.range'_succ];exact Steps.trans e5 f5⟩
theorem Z9{id:Nat}(hc:fP P B YO)(hl:∀t a,YN<|YO t a)(aB:At B ρ s nt t w a)(hf:dF s.nx s1.nx ρ)(h:jj P YO nt ops ops.toList t s= .ok t1 s1)(b:Frame)(k:List Item)(cs:List Frame):
 D8 P B ρ s s1 nt t1 w a (lone (b.atR a<|.code (.region id ops false)::k) cs w) (fun a' w'=>lone (b.atR a' k) cs w'):=by
 obtain⟨σ,a',w',e1,e2,e3,e4,e5⟩:=Nm hc hl b k cs ops.size 0 ops.toList iH iH aB hf h;exact⟨σ,a',w',e1,e2,e3,e4,.head stepR_region (by rw[List.range_eq_range'];exact e5)⟩
end
end Go.Rn
namespace Go.Rn
open Go.RowKit
variable {listed:Array Bool} {i:Nat}
def ou(acc:Array Nat)(o:Oper):Nat:=o.after.foldl (fun s e=>if Region.binds .any e then s|||2 ^ e.on|||acc.getD e.on 0 else s) 0
theorem RF(acc:Array Nat)(o:Oper)(i:Nat):(ou acc o).testBit i=true↔∃e∈o.after.toList,Region.binds .any e=true/\(e.on=i\/(acc.getD e.on 0).testBit i=true):=by
 unfold ou;rw[←Array.foldl_toList];have:∀(l:List Edge) (s:Nat),(l.foldl (fun s e=>if Region.binds .any e then s|||2 ^ e.on|||acc.getD e.on 0 else s) s).testBit i=true↔
  s.testBit i=true\/∃e∈l,Region.binds .any e=true/\(e.on=i\/(acc.getD e.on 0).testBit i=true):=by
  intro l;induction l with
  |nil=>intro s;simp
  |cons e l ih=>
   intro s;rw[List.foldl_cons,ih];by_cases q:Region.binds .any e=true
   ·rw[if_pos q];simp only[Nat.testBit_or,Bool.or_eq_true,Nat.testBit_two_pow,decide_eq_true_eq,List.mem_cons,exists_eq_or_imp,q,true_and];constructor
    ·rintro ((h|h)|h)
     ·rcases h with h|h
      ·exact .inl h
      ·exact .inr<|.inl<|.inl h
     ·exact .inr<|.inl<|.inr h
     ·exact .inr<|.inr h
    ·rintro (h|(h|h)|h)
     ·exact .inl<|.inl<|.inl h
     ·exact .inl<|.inl<|.inr h
     ·exact .inl<|.inr h
     ·exact .inr h
   ·rw[if_neg q];simp only[List.mem_cons,exists_eq_or_imp,q,false_and,false_or,Bool.false_eq_true]
 have h:=this o.after.toList 0;simpa using h
theorem L7(l:List Oper):∀(acc:Array Nat),(l.foldl (fun acc o=>acc.push<|ou acc o) acc).size=acc.size+l.length/\
 (∀k,k<acc.size->(l.foldl (fun acc o=>acc.push<|ou acc o) acc).getD k 0=acc.getD k 0):=by
 induction l with
 |nil=>intro acc;exact⟨by simp,fun k _=>rfl⟩
 |cons o l ih=>intro acc;rw[List.foldl_cons];obtain⟨h1,h2⟩:=ih<|acc.push<|ou acc o;refine⟨by rw[h1];simp;omega,fun k hk=>?_⟩;rw[h2 k vX];simp only[Array.getD_eq_getD_getElem?,Array.getElem?_push];rw[if_neg aj]
theorem SR{ops:Array Oper}{j:Nat}{o:Oper}(ho:ops[j]? =some o):
 (Region.before ops).getD j 0=ou ((ops.toList.take j).foldl (fun acc o=>acc.push<|ou acc o) #[]) o/\
 ∀k,k<j->((ops.toList.take j).foldl (fun acc o=>acc.push<|ou acc o) #[]).getD k 0=(Region.before ops).getD k 0:=by
 have hb:Region.before ops=ops.toList.foldl (fun acc o=>acc.push<|ou acc o) #[]:=by unfold Region.before;rw[←Array.foldl_toList];rfl
 have hj:j<ops.toList.length:=by have:=(Array.getElem?_eq_some_iff.1 ho).1;simpa using this
 have kD:ops.toList[j]? =some o:=by simpa using ho
 have afd:ops.toList=ops.toList.take j++o::ops.toList.drop (j+1):=by
  have e:ops.toList.drop j=o::ops.toList.drop (j+1):=by rw[List.drop_eq_getElem_cons hj];congr 1;rw[List.getElem?_eq_getElem hj] at kD;injection kD
  rw[←e,List.take_append_drop]
 obtain⟨s1,_⟩:=L7 (ops.toList.take j) #[];have lf:((ops.toList.take j).foldl (fun acc o=>acc.push<|ou acc o) #[]).size=j:=by rw[s1,List.length_take,Nat.min_eq_left aj];exact Nat.zero_add j
 generalize hA:(ops.toList.take j).foldl (fun acc o=>acc.push<|ou acc o) #[]=A at*;have yj:Region.before ops=(ops.toList.drop<|j+1).foldl (fun acc o=>acc.push<|ou acc o) (A.push<|ou A o):=by
  rw[hb]
  conv=>lhs;rw[afd]
  rw[List.foldl_append,hA,List.foldl_cons]
 obtain⟨_,q2⟩:=L7 (ops.toList.drop<|j+1)<|A.push<|ou A o;refine⟨?_,fun k hk=>?_⟩
 ·rw[yj,q2 j vX];rw[Array.getD_eq_getD_getElem?,Array.getElem?_push,if_pos lf.symm];rfl
 ·rw[yj,q2 k vX];simp only[Array.getD_eq_getD_getElem?,Array.getElem?_push];rw[if_neg aj]
theorem RV(ops:Array Oper):(Region.before ops).size=ops.size:=by
 have hb:Region.before ops=ops.toList.foldl (fun acc o=>acc.push<|ou acc o) #[]:=by unfold Region.before;rw[←Array.foldl_toList];rfl
 rw[hb,(L7 ops.toList #[]).1];simp
theorem Y6{ops:Array Oper}(he:IT ops)(D:Nat->Prop)(hD:∀(j:Nat) (o:Oper) (e:Edge),ops[j]? =some o->D j->e∈o.after->Region.binds .any e=true->D e.on):
 ∀(n j i:Nat),j<=n->((Region.before ops).getD j 0).testBit i=true->i<j/\(D j->D i)/\((∀(o:Oper) (e:Edge),ops[j]? =some o->e∈o.after->Region.binds .any e=true->D e.on)->D i):=by
 intro n;induction n with
 |zero=>
  intro j i hj h;have:j=0:=by omega
  subst this;cases ho:ops[0]? with
  |none=>
   have:¬0<(Region.before ops).size:=by rw[RV];intro q;rw[Array.getElem?_eq_getElem q] at ho;cases ho
   rw[Array.getD_eq_getD_getElem?,Array.getElem?_eq_none aj] at h;simp at h
  |some o=>obtain⟨h1,_⟩:=SR ho;rw[h1,RF] at h;obtain⟨e,hm,Ce,_⟩:=h;exact absurd (he 0 o e ho (Array.mem_toList_iff.1 hm) Ce)<|Nat.not_lt_zero _
 |succ n ih=>
  intro j i hj h;by_cases q:j<=n
  ·exact ih j i q h
  ·have:j=n+1:=by omega
   subst this;cases ho:ops[n+1]? with
   |none=>
    have:¬n+1<(Region.before ops).size:=by rw[RV];intro q;rw[Array.getElem?_eq_getElem q] at ho;cases ho
    rw[Array.getD_eq_getD_getElem?,Array.getElem?_eq_none aj] at h;simp at h
   |some o=>
    obtain⟨h1,h2⟩:=SR ho;rw[h1,RF] at h;obtain⟨e,hm,Ce,cV⟩:=h;have eg:=Array.mem_toList_iff.1 hm;have bB:=he (n+1) o e ho eg Ce;rcases cV with rfl|cV
    ·exact⟨bB,fun Qs=>hD _ o e ho Qs eg Ce,fun dM=>dM o e rfl eg Ce⟩
    ·rw[h2 e.on bB] at cV;obtain⟨a,b,_⟩:=ih e.on i aj cV;exact⟨by omega,fun Qs=>b<|hD _ o e ho Qs eg Ce,fun dM=>b<|dM o e rfl eg Ce⟩
def open_(listed:Array Bool):Nat:=(List.range listed.size).countP fun i=> !listed.getD i true
theorem aaS{n:Nat}{p q:Nat->Bool}(hi:i<n)(hp:p i=true)(hq:q i=false)(ct:∀k,k≠i->q k=p k):(List.range n).countP q<(List.range n).countP p:=by
 induction n with
 |zero=>omega
 |succ n ih=>
  rw[List.range_succ,List.countP_append,List.countP_append];by_cases e:i=n
  ·subst e;have:(List.range i).countP q=(List.range i).countP p:=by
    apply List.countP_congr;intro k hk;have:k≠i:=by have:=List.mem_range.1 hk;omega
    rw[ct k this]
   rw[this];simp[hp,hq]
  ·have:=ih aj;have e2:(List.countP q [n])=List.countP p [n]:=by simp[List.countP_cons,ct n<|Ne.symm e]
   rw[e2];omega
theorem ab4(hi:listed.getD i true=false):open_ (listed.setIfInBounds i true)<open_ listed:=by
 have bB:i<listed.size:=by
  rcases Nat.lt_or_ge i listed.size with q|q
  ·exact q
  ·rw[Array.getD_eq_getD_getElem?,Array.getElem?_eq_none q] at hi;cases hi
 unfold open_;rw[Array.size_setIfInBounds];refine aaS bB (by simp[hi]) ?_ fun k hk=>?_
 ·simp[Array.getD_eq_getD_getElem?,Array.getElem?_setIfInBounds_self_of_lt bB]
 ·simp only[Array.getD_eq_getD_getElem?];rw[Array.getElem?_setIfInBounds_ne aj]
theorem aaT(h:open_ listed=0):∀i,i<listed.size->listed.getD i false=true:=by intro i hi;unfold open_ at h;rw[List.countP_eq_zero] at h;have:=h i<|List.mem_range.2 hi;rw[Array.getD_eq_getD_getElem?,Array.getElem?_eq_getElem hi] at this ⊢;simpa using this
theorem aaa{ops:Array Oper}(he:IT ops)(hs:listed.size=ops.size)(hr:Region.ready .any ops listed=[]):∀n i,i<n->i<ops.size->listed.getD i false=true:=by
 intro n;induction n with
 |zero=>intro i hi;omega
 |succ n ih=>
  intro i hi bB;by_cases q:i<n
  ·exact ih i q bB
  ·have:i=n:=by omega
   subst this;cases h:listed.getD i false with
   |true=>rfl
   |false=>
    exfalso;have qD:i∈Region.ready .any ops listed:=by
     unfold Region.ready;rw[List.mem_filter];refine⟨List.mem_range.2 bB,?_⟩;have h1:listed.getD i true=false:=by rw[Array.getD_eq_getD_getElem?,Array.getElem?_eq_getElem aj] at h ⊢;simpa using h
     rw[h1,Array.getElem?_eq_getElem bB];simp only[Bool.not_false,Bool.true_and,Option.map_some,Option.getD_some];rw[Array.all_eq_true_iff_forall_mem];intro e hm;cases hb:Region.binds .any e with
     |false=>rfl
     |true=>have aix:=he i ops[i] e (Array.getElem?_eq_getElem bB) hm hb;simp only[Bool.not_true,Bool.false_or];exact ih e.on aix aj
    rw[hr] at qD;cases qD
section
variable {P:Program} {ops:Array Oper}
theorem aaU(he:IT ops)(b:Frame)(k:List Item)(cs:List Frame)(Inv:Array Bool->Act->World->Prop)(agD:∀(listed:Array Bool) (a:Act) (w:World) (i:Nat) (o:Oper) (rest:List Nat),listed.size=ops.size->Inv listed a w->ops[i]? =some o->listed.getD i true=false->
 (∀e∈o.after,Region.binds .any e=true->listed.getD e.on false=true)->
 ∃a' w',Inv (listed.setIfInBounds i true) a' w'/\Steps P (lone (b.atR a<|.inRegion ops (i::rest)::k) cs w) (lone (b.atR a'<|.inRegion ops rest::k) cs w')):
 ∀(fuel t:Nat) (listed:Array Bool) (a:Act) (w:World),listed.size=ops.size->open_ listed<=fuel->Inv listed a w->∃AR a' w',AR.size=ops.size/\(∀i,i<ops.size->AR.getD i false=true)/\Inv AR a' w'/\Steps P (lone (b.atR a<|.inRegion ops (Region.linearise.go .any ops fuel t listed [])::k) cs w) (lone (b.atR a' k) cs w'):=by
 intro fuel;induction fuel with
 |zero=>
  intro t listed a w hs ho hi;refine⟨listed,a,w,hs,?_,hi,?_⟩
  ·intro i bB;exact aaT aj i aj
  ·simp only[Region.linearise.go,List.reverse_nil];exact .one stepR_region_end
 |succ fuel ih=>
  intro t listed a w hs ho hi;simp only[Region.linearise.go];change ∃AR a' w',AR.size=ops.size/\(∀i,i<ops.size->AR.getD i false=true)/\Inv AR a' w'/\
   Steps P (lone (b.atR a<|.inRegion ops (match (Region.ready .any ops listed)[t % (Region.ready .any ops listed).length]? with
    |some i=>Region.linearise.go .any ops fuel (t / (Region.ready .any ops listed).length) (listed.setIfInBounds i true) [i]
    |none=>[].reverse)::k) cs w) (lone (b.atR a' k) cs w')
  cases hq:(Region.ready .any ops listed)[t % (Region.ready .any ops listed).length]? with
  |none=>
   have Ks:Region.ready .any ops listed=[]:=by
    cases hr:Region.ready .any ops listed with
    |nil=>rfl
    |cons x xs=>rw[hr] at hq;have bB:t % (x::xs).length<(x::xs).length:=Nat.mod_lt _ iH;simp at hq;simp at bB;omega
   refine⟨listed,a,w,hs,fun i bB=>aaa he hs Ks (i+1) i aj bB,hi,?_⟩;simp only[List.reverse_nil];exact .one stepR_region_end
  |some i=>
   simp only[];have qD:=List.mem_of_getElem? hq;unfold Region.ready at qD;rw[List.mem_filter,Bool.and_eq_true] at qD;obtain⟨bB,h1,h2⟩:=qD;have aiy:=List.mem_range.1 bB;have XK:ops[i]? =some ops[i]:=Array.getElem?_eq_getElem aiy;rw[XK] at h2;simp only[Option.map_some,Option.getD_some] at h2;rw[Array.all_eq_true_iff_forall_mem] at h2;have ye:listed.getD i true=false:=by simpa using h1
   rw[linearise_go_acc,List.reverse_singleton,List.singleton_append];obtain⟨a',w',j1,j2⟩:=agD listed a w i ops[i] (Region.linearise.go .any ops fuel (t / (Region.ready .any ops listed).length) (listed.setIfInBounds i true) []) hs hi XK ye (fun e hm hb=>by have:=h2 e hm;rw[hb] at this;simpa using this);obtain⟨l',Hk,nj,k0,k1,k2,k3⟩:=ih (t / (Region.ready .any ops listed).length) (listed.setIfInBounds i true) a' w' (by simp[hs]) (by have:=ab4 ye;omega) j1;exact⟨l',Hk,nj,k0,k1,k2,Steps.trans j2 k3⟩
theorem ab5(n:Nat):open_ (Array.replicate n false)<=n:=by unfold open_;have:=List.countP_le_length (p:=fun i=> !(Array.replicate n false).getD i true) (l:=List.range (Array.replicate n false).size);simpa using this
end
end Go.Rn
namespace Go.Rn
open Go.RowKit
variable {g f:Operand->Option AV}
section
variable {P:Program} {YO:aK} {t u:Tr AV}
theorem H8:∀{l:List Operand},(∀y∈l,f y=g y)->jP f l=jP g l
 |[],_=>rfl
 |y::l,h=>by simp only[jP,h y List.mem_cons_self,H8 fun z hz=>h z<|List.mem_cons_of_mem _ hz]
theorem L8:∀{l:List<|Nat×Operand},(∀y∈l,f y.2=g y.2)->vp f l=vp g l
 |[],_=>rfl
 |(i,y)::l,h=>by simp only[vp,h (i,y) List.mem_cons_self,L8 fun z hz=>h z<|List.mem_cons_of_mem _ hz]
theorem MA{y:Option Operand}(h:∀z,y=some z->f z=g z):opt f y=opt g y:=by
 cases y with
 |none=>rfl
 |some z=>simp only[opt,h z rfl]
theorem aaV{op:Op}(h:∀y∈op.operands,aI t y=aI u y):(dI P op).val YO t=(dI P op).val YO u:=by
 cases op
 case move y=>show vq y YO t=vq y YO u;simp only[vq,h y fO]
 case assign y=>show vq y YO t=vq y YO u;simp only[vq,h y fO]
 case pick c p q=>show Bu c p q YO t=Bu c p q YO u;simp only[Bu,h c fO,h p fO,h q fO]
 case alloc e=>rfl
 case box e y=>show BH y YO t=BH y YO u;simp only[BH,h y fO]
 case build ty parts=>show A9 P ty parts.toList YO t=A9 P ty parts.toList YO u;simp only[A9,L8 (f:=aI t) (g:=aI u) (l:=parts.toList) fun y hy=>h y.2 (by simp only[Op.operands,List.mem_toArray];exact List.mem_map_of_mem hy)]
 case buildSlice ty len parts=>show Aq P ty len parts.toList YO t=Aq P ty len parts.toList YO u;simp only[Aq,L8 (f:=aI t) (g:=aI u) (l:=parts.toList) fun y hy=>h y.2 (by simp only[Op.operands,List.mem_toArray];exact List.mem_map_of_mem hy)]
 case load ty y=>show tH P ty y YO t=tH P ty y YO u;simp only[tH,h y fO]
 case store ty y z=>show xj P ty y z YO t=xj P ty y z YO u;simp only[xj,h y fO,h z fO]
 case nilCheck y=>show Av y YO t=Av y YO u;simp only[Av,h y fO]
 case binOp op ty y z v=>show tV P op ty y z YO t=tV P op ty y z YO u;simp only[tV,h y fO,h z fO]
 case unOp op ty y=>show B3 op y YO t=B3 op y YO u;simp only[B3,h y fO]
 case convert src dst y=>show AD P src dst y YO t=AD P src dst y YO u;simp only[AD,h y fO]
 case makeInterface ty y=>show CG P ty y YO t=CG P ty y YO u;simp only[CG,h y fO]
 case makeFunc fn first captured=>show Aw fn first.toList captured.toList YO t=Aw fn first.toList captured.toList YO u;simp only[Aw,H8 (f:=aI t) (g:=aI u) (l:=first.toList) fun y hy=>h y (by simp only[Op.operands,Array.mem_append];exact .inl<|Array.mem_toList_iff.1 hy),H8 (f:=aI t) (g:=aI u) (l:=captured.toList) fun y hy=>h y (by simp only[Op.operands,Array.mem_append];exact .inr<|Array.mem_toList_iff.1 hy)]
 case makeMap ty y=>
  cases y with
  |none=>rfl
  |some y=>show AE P ty (some y) YO t=AE P ty (some y) YO u;simp only[AE,h y fO]
 case makeSlice ty l c=>show As P ty l c YO t=As P ty l c YO u;simp only[As,h l fO,h c fO]
 case slice ty y lo hi mx=>show td P ty y lo hi mx YO t=td P ty y lo hi mx YO u;simp only[td,h y fO,MA (f:=aI t) (g:=aI u) (y:=lo) (fun z hz=>h z<|by simp[Op.operands,hz]),MA (f:=aI t) (g:=aI u) (y:=hi) (fun z hz=>h z<|by simp[Op.operands,hz]),MA (f:=aI t) (g:=aI u) (y:=mx) fun z hz=>h z<|by simp[Op.operands,hz]]
 case fieldAddr ty y f=>show Au P ty y f YO t=Au P ty y f YO u;simp only[Au,h y fO]
 case field ty y f=>show Ba P ty y f YO t=Ba P ty y f YO u;simp only[Ba,h y fO]
 case indexAddr ty y z=>show p9 P ty y z YO t=p9 P ty y z YO u;simp only[p9,h y fO,h z fO]
 case index ty y z=>show Bb P ty y z YO t=Bb P ty y z YO u;simp only[Bb,h y fO,h z fO]
 case lookup ty y z ok=>show w8 P ty y z ok YO t=w8 P ty y z ok YO u;simp only[w8,h y fO,h z fO]
 case mapUpdate ty m k y=>show qf P ty m k y YO t=qf P ty m k y YO u;simp only[qf,h m fO,h k fO,h y fO]
 case insert ty m k y=>show qf P ty m k y YO t=qf P ty m k y YO u;simp only[qf,h m fO,h k fO,h y fO]
 case typeAssert y xt asserted ok=>show C5 P asserted ok y YO t=C5 P asserted ok y YO u;simp only[C5,h y fO]
 case range ty y=>show Bc P ty y YO t=Bc P ty y YO u;simp only[Bc,h y fO]
 case entry y=>show Bd y YO t=Bd y YO u;simp only[Bd,h y fO]
 case next y Qr=>
  cases Qr with
  |true=>show CS y YO t=CS y YO u;simp only[CS,h y fO]
  |false=>rfl
 case extract y i=>show AG y i YO t=AG y i YO u;simp only[AG,h y fO]
 case call c=>
  obtain⟨callee,args,ts⟩:=c;have ha:∀(cl:Callee),(∀y∈(Op.call ⟨cl,args,ts⟩).operands,aI t y=aI u y)->jP (aI t) args.toList=jP (aI u) args.toList:=fun cl hh=>H8 fun y hy=>hh y (by simp only[Op.operands,Call.operands,Array.mem_append];exact .inr<|Array.mem_toList_iff.1 hy);cases callee with
  |builtin b=>show oo P b ts args.toList YO t=oo P b ts args.toList YO u;simp only[oo,ha _ h]
  |value f=>show tI f args.toList YO t=tI f args.toList YO u;simp only[tI,ha _ h,h f<|by simp[Op.operands,Call.operands]]
  |invoke r name=>rfl
 all_goals rfl
theorem ab6{y:Operand}(h:∀d,y= .tmp d->t.get d=u.get d):aI t y=aI u y:=by
 cases y with
 |tmp d=>show t.get d=u.get d;rw[h d rfl]
 |_=>rfl
theorem Sd{nt:Nat}{ops:Array Oper}{o:Oper}(h:∀d∈o.looksAt ops,t.get d=u.get d){s s1:AS}{t1:Tr AV}(hr:gN P YO nt ops o t s= .ok t1 s1):
 ∃v,ji nt t o.dst v=some t1/\∀u1,ji nt u o.dst v=some u1->gN P YO nt ops o u s= .ok u1 s1:=by
 have eX:(dI P o.op).val YO t=(dI P o.op).val YO u:=aaV fun y hy=>ab6 fun d hd=>h d (by unfold Oper.looksAt;refine List.mem_append_left _<|List.mem_filterMap.2 ⟨y,Array.mem_toList_iff.2 hy,by rw[hd]⟩);have main:sb (dI P o.op) o.dst YO nt t s= .ok t1 s1->∃v,ji nt t o.dst v=some t1/\∀u1,ji nt u o.dst v=some u1->sb (dI P o.op) o.dst YO nt u s= .ok u1 s1:=by intro hk;unfold sb at hk;obtain⟨v,s2,h1,h2⟩:=M.aR hk;obtain⟨h3,rfl⟩:=hU h2;refine⟨v,h3,fun u1 hu=>?_⟩;unfold sb;rw[←eX,M.bQ h1];unfold lift;rw[hu]
 unfold gN Bv at hr ⊢;cases hg:o.guard with
 |none=>rw[hg] at hr;exact main hr
 |some g=>
  rw[hg] at hr;have lF:tJ ops g (dI P o.op) o.dst YO nt t s= .ok t1 s1:=hr;have hw:qg ops g t=qg ops g u:=by
   unfold qg Fy;cases e1:ops[g.1]? with
   |none=>rfl
   |some q=>
    simp only;cases e2:q.dst with
    |none=>rfl
    |some d=>simp only;rw[h d (by unfold Oper.looksAt;refine List.mem_append_right _ ?_;rw[hg];simp[e1,e2])]
  have jv:te ops t g.1=te ops u g.1:=by
   unfold te;cases e1:ops[g.1]? with
   |none=>rfl
   |some q=>
    simp only;cases e2:q.dst with
    |none=>rfl
    |some d=>simp only;rw[h d (by unfold Oper.looksAt;refine List.mem_append_right _ ?_;rw[hg];simp[e1,e2])]
  show ∃v,ji nt t o.dst v=some t1/\∀u1,ji nt u o.dst v=some u1->tJ ops g (dI P o.op) o.dst YO nt u s= .ok u1 s1;unfold tJ at lF ⊢;obtain⟨hk,lF⟩:=cZ lF;rw[←hw, ←jv,hk,dC];cases q:qg ops g t with
  |true=>rw[q] at lF;exact main lF
  |false=>rw[q] at lF;obtain⟨h3,rfl⟩:=hU (show lift (ji nt t o.dst qi) s= .ok t1 s1 from lF);refine⟨qi,h3,fun u1 hu=>?_⟩;show lift (ji nt u o.dst qi) s1= .ok u1 s1;unfold lift;rw[hu]
end
end Go.Rn
namespace Go.Rn
open Go.RowKit
variable {b:Array Nat}
theorem Rel.congr{B:aL}{ρ:aw}{h h':Tr ab}{w:World}(r:Rel B ρ h w)(e:∀m,m<top->h'.get m=h.get m):Rel B ρ h' w:=by
 refine⟨fun n o hn hg=>r.is n o hn (by rw[←e n hn];exact hg),fun n m o p b N M hn hm h1 h2 cV=>r.one n m o p b N M hn hm (by rw[←e n hn];exact h1) (by rw[←e m hm];exact h2) cV,fun n m es ex left cur hn h1=>?_,r.size,
  fun i j m es ex left cur hI jr iR iU hi hj h1 h2=>r.lone i j m es ex left cur hI jr iR iU hi hj (by rw[←e i hi];exact h1) (by rw[←e j hj];exact h2),
  r.fz.of (aw.le_refl _) (fun _ _ _=>rfl) (fun b1 _ hn=>hn.sub fun m q hm hq gX=>⟨q,by rw[←e m hm];exact hq,gX⟩),
  r.tk.of (aw.le_refl _) (fun n q hn hq _=>by rw[←e n hn];exact hq) (Nat.le_refl _) (fun _ _ _=>rfl) (fun b1 _ hn=>hn.sub fun m q hm hq gX=>⟨q,by rw[←e m hm];exact hq,gX⟩) (fun _ _ _ _ _ e=>e)⟩
 obtain⟨a,b,c⟩:=r.iter n m es ex left cur hn (by rw[←e n hn];exact h1);exact⟨a,by rw[e m a];exact b,c⟩
theorem Rs{x:dx}:∀{all:List dx},sM b x all=true->∀y∈all,x.i=y.i\/tf x y=true\/loose b x.i y.i=false
 |[],_,y,hy=>by cases hy
 |z::l,h,y,hy=>by
  simp only[sM] at h;cases q:(Nat.beq x.i z.i||(tf x z|| !loose b x.i z.i)) with
  |false=>rw[q] at h;cases h
  |true=>
   rw[q] at h;rcases List.mem_cons.1 hy with rfl|hy
   ·simp only[Bool.or_eq_true,Bool.not_eq_true'] at q;rcases q with q|q|q
    ·exact .inl<|dT.1 q
    ·exact .inr<|.inl q
    ·exact .inr<|.inr q
   ·exact Rs h y hy
theorem SS{all:List dx}:∀{l:List dx},qq b all l=true->∀x∈l,tg x=true\/sM b x all=true
 |[],_,x,hx=>by cases hx
 |z::l,h,x,hx=>by
  simp only[qq] at h;cases q:(tg z||sM b z all) with
  |false=>rw[q] at h;cases h
  |true=>
   rw[q] at h;rcases List.mem_cons.1 hx with rfl|hx
   ·exact Bool.or_eq_true_iff.1 q
   ·exact SS h x hx
theorem RX{m:List Nat}:∀{l:List Nat},meets l m=false->∀x∈l,x ∉ m
 |[],_,x,hx=>by cases hx
 |z::l,h,x,hx=>by
  simp only[meets] at h;cases q:vK z m with
  |true=>rw[q] at h;cases h
  |false=>
   rw[q] at h;rcases List.mem_cons.1 hx with rfl|hx
   ·intro e;rw[FB.2 e] at q;cases q
   ·exact RX h x hx
theorem RY{lo hi:Nat}:∀{l:List Nat},zk lo hi l=false->∀x∈l,¬(lo<=x/\x<hi)
 |[],_,x,hx=>by cases hx
 |z::l,h,x,hx=>by
  simp only[zk] at h;cases q:(Nat.ble lo z&&Nat.blt z hi) with
  |true=>rw[q] at h;cases h
  |false=>
   rw[q] at h;rcases List.mem_cons.1 hx with rfl|hx
   ·rintro ⟨h1,h2⟩;rw[show Nat.ble lo x=true from aM.2 h1,show Nat.blt x hi=true from(blt_eq _ _).mpr h2] at q;cases q
   ·exact RY h x hx
section
variable {P:Program} {YO:aK} {ops:Array Oper} {nt:Nat}
structure PF (P:Program) (YO:aK) (ops:Array Oper) (nt:Nat) (H:Nat->Tr ab) (N:Nat->Nat) (T:Nat->Tr AV) (k:Nat) (o:Oper) (x:dx) (s1:AS):Prop where
 lo:x.lo=N k
 hi:x.hi=N (k+1)
 run:gN P YO nt ops o (T k) ⟨H k,N k,N k,[],[]⟩= .ok (T<|k+1) s1
 h:s1.h=H (k+1)
 nx:s1.nx=N (k+1)
 rd:x.rd=below (N k) s1.rd
 wr:x.wr=below (N k) s1.wr
theorem SU(hl:∀t a,YN<|YO t a):∀(l:List Oper) (i:Nat) {t t':Tr AV} {s s':AS} {ms:List dx},bD s->mZ P YO nt ops l i t s= .ok (t',ms) s'->
 bD s'/\∃(H:Nat->Tr ab) (N:Nat->Nat) (T:Nat->Tr AV),H 0=s.h/\N 0=s.nx/\T 0=t/\H l.length=s'.h/\N l.length=s'.nx/\T l.length=t'/\(∀k,k<=l.length->N k<=top)/\∀k o,l[k]? =some o->∃x s1,ms[k]? =some x/\x.i=i+k/\PF P YO ops nt H N T k o x s1
 |[],i,t,t',s,s',ms,fi,h=>by obtain⟨e,rfl⟩:=bK (show M.pure (t,[]) s= .ok (t',ms) s' from h);cases e;exact⟨fi,fun _=>s'.h,fun _=>s'.nx,fun _=>t,rfl,rfl,rfl,rfl,rfl,rfl,fun _ _=>fi.nx,fun k o h=>by simp at h⟩
 |o::l,i,t,t',s,s',ms,fi,h=>by
  obtain⟨x,s2,h1,h2⟩:=M.aR (show((alone i<|gN P YO nt ops o t).bind fun x=>(mZ P YO nt ops l (i+1) x.1).bind fun y=>M.pure (y.1,x.2::y.2)) s= .ok (t',ms) s' from h);obtain⟨y,s3,h3,h4⟩:=M.aR h2;obtain⟨e,rfl⟩:=bK h4;cases e;obtain⟨a,s1,g1,rfl,rfl⟩:=SH h1;have Qt:bD s1:=(YN.gN P hl nt ops o t).cO (s:=⟨s.h,s.nx,s.nx,[],[]⟩) ⟨Nat.le_refl _,fi.nx⟩ g1;have fle:s.nx<=s1.nx:=(YN.gN P hl nt ops o t).le (s:=⟨s.h,s.nx,s.nx,[],[]⟩) ⟨Nat.le_refl _,fi.nx⟩ g1;have eG:bD ⟨s1.h,s1.nx,s.mark,below s.mark s1.rd++s.rd,below s.mark s1.wr++s.wr⟩:=⟨Nat.le_trans fi.mark fle,Qt.nx⟩;obtain⟨f3,H,N,T,a1,a2,a3,a4,a5,a6,a7,a8⟩:=SU hl l (i+1) (t':=y.1) (ms:=y.2) eG h3;refine⟨f3,fun k=>match k with|0=>s.h|k+1=>H k,fun k=>match k with|0=>s.nx|k+1=>N k,fun k=>match k with|0=>t|k+1=>T k,rfl,rfl,rfl,a4,a5,a6,?_,?_⟩
  ·intro k hk;cases k with
   |zero=>exact fi.nx
   |succ k=>exact a7 k (by simpa using hk)
  ·intro k o2 hk;cases k with
   |zero=>simp only[List.getElem?_cons_zero,Option.some.injEq] at hk;subst hk;refine⟨_,s1,rfl,rfl,⟨rfl,a2.symm,?_,a1.symm,a2.symm,rfl,rfl⟩⟩;show gN P YO nt ops o t ⟨s.h,s.nx,s.nx,[],[]⟩= .ok (T 0) s1;rw[a3];exact g1
   |succ k=>simp only[List.getElem?_cons_succ] at hk;obtain⟨x,s4,b1,b2,b3⟩:=a8 k o2 hk;exact⟨x,s4,by simpa using b1,by rw[b2];omega,⟨b3.lo,b3.hi,b3.run,b3.h,b3.nx,b3.rd,b3.wr⟩⟩
structure Text (P:Program) (YO:aK) (ops:Array Oper) (nt:Nat) (H:Nat->Tr ab) (N:Nat->Nat) (T:Nat->Tr AV) (Rd Wr:Nat->Nat->Prop):Prop where
 top:∀k,k<=ops.size->N k<=Rn.top
 up:∀k,k<ops.size->N k<=N (k+1)
 mN:∀k m,k<ops.size->¬Wr k m->m<Rn.top->(H<|k+1).get m=(H k).get m
 made:∀k m,k<ops.size->N k<=m->m<N (k+1)->Wr k m
 wrote:∀k m,k<ops.size->Wr k m->m<N (k+1)/\(m<N k->Rd k m)
 slot:∀k o d,ops[k]? =some o->o.dst≠some d->(T<|k+1).get d=(T k).get d
 apart:∀i j m,i<ops.size->j<ops.size->i≠j->loose (Region.before ops) i j=true->Wr i m->¬Rd j m
 again:∀j o,ops[j]? =some o->∀(h:Tr ab),(∀m,m<Rn.top->Rd j m->h.get m=(H j).get m)->∃t1,gN P YO nt ops o (T j) ⟨h,N j,N j,[],[]⟩= .ok (T<|j+1) t1/\t1.nx=N (j+1)/\
  (∀m,Wr j m->t1.h.get m=(H<|j+1).get m)/\(∀m,¬Wr j m->m<Rn.top->t1.h.get m=h.get m)
theorem ads(hl:∀t a,YN<|YO t a)(iY:nt<=top){t t':Tr AV}{s s':AS}{ms:List dx}(fi:bD s)(h:mZ P YO nt ops ops.toList 0 t s= .ok (t',ms) s')(hm:qq (Region.before ops) ms ms=true):
 bD s'/\∃(H:Nat->Tr ab) (N:Nat->Nat) (T:Nat->Tr AV) (Rd Wr:Nat->Nat->Prop),H 0=s.h/\N 0=s.nx/\T 0=t/\H ops.size=s'.h/\N ops.size=s'.nx/\T ops.size=t'/\Text P YO ops nt H N T Rd Wr:=by
 obtain⟨f',H,N,T,a1,a2,a3,a4,a5,a6,a7,a8⟩:=SU hl ops.toList 0 fi h;have hlen:ops.toList.length=ops.size:=by simp
 rw[hlen] at a4 a5 a6 a7;refine⟨f',H,N,T,fun k m=>∃x,ms[k]? =some x/\m∈x.rd,fun k m=>∃x,ms[k]? =some x/\(m∈x.wr\/(N k<=m/\m<N (k+1))),a1,a2,a3,a4,a5,a6,?_⟩;have ah:∀k,k<ops.size->∃o x s1,ops[k]? =some o/\ms[k]? =some x/\x.i=k/\PF P YO ops nt H N T k o x s1:=by
  intro k hk;have ho:ops.toList[k]? =some ops[k]:=by simp[hk]
  obtain⟨x,s1,b1,b2,b3⟩:=a8 k _ ho;exact⟨ops[k],x,s1,Array.getElem?_eq_getElem hk,b1,by omega,b3⟩
 have K6:∀k,k<ops.size->∀o x s1,PF P YO ops nt H N T k o x s1->∃dr dw,mR ⟨H k,N k,N k,[],[]⟩ s1 dr dw/\
  (∀A m0 t,Gj A m0 ⟨H k,N k,N k,[],[]⟩ t->(∀q∈dr,q<m0->A q)->∃t1,gN P YO nt ops o (T k) t= .ok (T<|k+1) t1/\tW A m0 s1 t t1 dr dw)/\(∀m,m∈x.rd↔m∈dr/\m<N k)/\(∀m,m∈x.wr↔m∈dw/\m<N k):=by
  intro k hk o x s1 hd;obtain⟨dr,dw,d1,d2⟩:=YN.gN P hl nt ops o (T k) _ _ _ ⟨Nat.le_refl _,a7 k aj⟩ hd.run;refine⟨dr,dw,d1,d2,fun m=>?_,fun m=>?_⟩
  ·rw[hd.rd,sP,d1.rd];simp
  ·rw[hd.wr,sP,d1.wr];simp
 refine⟨a7,?_,?_,?_,?_,?_,?_,?_⟩
 ·intro k hk;obtain⟨o,x,s1,_,_,_,hd⟩:=ah k hk;obtain⟨dr,dw,d1,_⟩:=K6 k hk o x s1 hd;have:=d1.nx;rw[hd.nx] at this;exact this
 ·intro k m hk hw jW;obtain⟨o,x,s1,_,hx,_,hd⟩:=ah k hk;obtain⟨dr,dw,d1,_,_,d4⟩:=K6 k hk o x s1 hd;rw[←hd.h];by_cases q:m<N k
  ·refine d1.same m q fun e=>hw ⟨_,hx,.inl<|(d4 m).2 ⟨e,q⟩⟩
  ·refine d1.nV m ?_ jW;rw[hd.nx];rcases Nat.lt_or_ge m (N<|k+1) with q2|q2
   ·exact absurd ⟨_,hx,.inr ⟨by omega,q2⟩⟩ hw
   ·exact q2
 ·intro k m hk h1 h2;obtain⟨o,x,s1,_,hx,_,hd⟩:=ah k hk;exact⟨x,hx,.inr ⟨h1,h2⟩⟩
 ·rintro k m hk ⟨x',qN,hw⟩;obtain⟨o,x,s1,_,hx,_,hd⟩:=ah k hk;rw[hx] at qN;cases qN;obtain⟨dr,dw,d1,_,d3,d4⟩:=K6 k hk o _ s1 hd;have Hl:=d1.nx;rw[hd.nx] at Hl;have aiz:N k<=N (k+1):=Hl;rcases hw with hw|⟨h1,h2⟩
  ·obtain⟨e1,e2⟩:=(d4 m).1 hw;exact⟨by omega,fun _=>⟨_,hx,(d3 m).2 ⟨d1.sub m e1,e2⟩⟩⟩
  ·exact⟨h2,fun q=>by omega⟩
 ·intro k o d ho ct;have hk:k<ops.size:=(Array.getElem?_eq_some_iff.1 ho).1;obtain⟨o',x,s1,kD,hx,_,hd⟩:=ah k hk;rw[ho] at kD;cases kD;obtain⟨v,hv,_⟩:=Sd (u:=T k) (fun _ _=>rfl) hd.run;rcases CU hv with⟨_,e⟩|⟨d',e1,e2,e3⟩
  ·rw[e]
  ·rw[e3,Tr.lM _ _ _ _<|Nat.lt_of_lt_of_le e2 iY,if_neg (by intro e;subst e;exact ct e1)]
 ·rintro i j m hi hj ct afe ⟨x',qN,hw⟩ ⟨y',v7,hr⟩;obtain⟨_,x,s1,_,hx,xi,hd⟩:=ah i hi;obtain⟨_,y,s2,_,hy,yi,he⟩:=ah j hj;rw[hx] at qN;cases qN;rw[hy] at v7;cases v7;rcases SS hm _ (List.mem_of_getElem? hx) with q|q
  ·unfold tg at q;split at q
   ·rename_i hwr;rcases hw with hw|⟨h1,h2⟩
    ·rw[hwr] at hw;cases hw
    ·have:=aM.1 q;rw[hd.lo,hd.hi] at this;omega
   ·cases q
  ·rcases Rs q _ (List.mem_of_getElem? hy) with e|e|e
   ·rw[xi,yi] at e;exact ct e
   ·unfold tf at e;simp only[Bool.and_eq_true,Bool.not_eq_true'] at e;rcases hw with hw|⟨h1,h2⟩
    ·exact RX e.1 m hw hr
    ·exact RY e.2 m hr ⟨by rw[hd.lo];exact h1,by rw[hd.hi];exact h2⟩
   ·rw[xi,yi,afe] at e;cases e
 ·intro j o ho h' hag;have hj:j<ops.size:=(Array.getElem?_eq_some_iff.1 ho).1;obtain⟨o',x,s1,kD,hx,_,hd⟩:=ah j hj;rw[ho] at kD;cases kD;obtain⟨dr,dw,d1,d2,d3,d4⟩:=K6 j hj o x s1 hd;obtain⟨t1,c1,c2⟩:=d2 (fun m=>∃x,ms[j]? =some x/\m∈x.rd) (N j) ⟨h',N j,N j,[],[]⟩
   ⟨rfl,rfl,Nat.le_refl _,fun k hk cV=>by
    rcases cV with cV|cV
    ·exact(hag k (Nat.lt_of_lt_of_le hk<|a7 j aj) cV).symm
    ·exact absurd hk<|Nat.not_lt.2 cV⟩ (fun q hq bB=>⟨x,hx,(d3 q).2 ⟨hq,bB⟩⟩)
  have cQ:t1.nx=N (j+1):=by rw[←c2.pw.nx,hd.nx]
  refine⟨t1,c1,cQ,?_,?_⟩
  ·rintro m ⟨x',qN,hw⟩;rw[hx] at qN;cases qN;rw[←hd.h];have Hl:=d1.nx;rw[hd.nx] at Hl;have aiz:N j<=N (j+1):=Hl;symm;rcases hw with hw|⟨h1,h2⟩
   ·obtain⟨e1,e2⟩:=(d4 m).1 hw;exact c2.pw.is m (by rw[hd.nx];omega)<|.inl ⟨x,hx,(d3 m).2 ⟨d1.sub m e1,e2⟩⟩
   ·exact c2.pw.is m (by rw[hd.nx];exact h2)<|.inr h1
  ·intro m hw jW;by_cases q:m<N j
   ·exact c2.same m q fun e=>hw ⟨_,hx,.inl<|(d4 m).2 ⟨e,q⟩⟩
   ·refine c2.nV m ?_ jW;rw[hd.nx];rcases Nat.lt_or_ge m (N<|j+1) with q2|q2
    ·exact absurd ⟨_,hx,.inr ⟨by omega,q2⟩⟩ hw
    ·exact q2
end
end Go.Rn
namespace Go.Rn
open Go.RowKit
variable {ρ:aw} {w:World} {t:Tr AV} {listed:Array Bool} {j:Nat} {a:Act}
section
variable {P:Program} {B:aL} {YO:aK} {ops:Array Oper} {nt:Nat} {H:Nat->Tr ab} {N:Nat->Nat} {T:Nat->Tr AV} {Rd Wr:Nat->Nat->Prop}
def jR(listed:Array Bool)(i:Nat):Prop:=listed.getD i false=true
def Cut(n:Nat)(W:Nat->Prop)(D:Nat->Prop)(c:Nat):Prop:=c<=n/\∀i,i<n->W i->(D i↔i<c)
theorem Se{α:Type}{f:Nat->α}{n:Nat}{W:Nat->Prop}(hk:∀k,k<n->¬W k->f (k+1)=f k):∀(m c:Nat),c+m<=n->(∀i,c<=i->i<c+m->¬W i)->f (c+m)=f c
 |0,_,_,_=>rfl
 |m+1,c,hn,hw=>by have h1:=hk (c+m) aj<|hw (c+m) aj aj;rw[show c+(m+1)=c+m+1 from rfl,h1];exact Se hk m c aj fun i h1 h2=>hw i h1 aj
theorem ID{α:Type}{f:Nat->α}{n:Nat}{W D:Nat->Prop}(hk:∀k,k<n->¬W k->f (k+1)=f k){c c':Nat}(h:Cut n W D c)(h':Cut n W D c'):f c=f c':=by
 have key:∀{a b:Nat},Cut n W D a->Cut n W D b->a<=b->f b=f a:=by intro a b ha hb Hg;obtain⟨m,rfl⟩:∃m,b=a+m:=⟨b - a,by omega⟩;refine Se hk m a hb.1 fun i h1 h2 hw=>?_;have iJ:i<n:=Nat.lt_of_lt_of_le h2 hb.1;have:=(ha.2 i iJ hw).1<|(hb.2 i iJ hw).2 h2;omega
 rcases Nat.le_total c c' with q|q
 ·exact(key h h' q).symm
 ·exact key h' h q
theorem y8(x:Text P YO ops nt H N T Rd Wr):∀{i j:Nat},i<=j->j<=ops.size->N i<=N j:=by
 intro i j mB hj;obtain⟨m,rfl⟩:∃m,j=i+m:=⟨j - i,by omega⟩;clear mB;induction m with
 |zero=>exact Nat.le_refl _
 |succ m ih=>exact Nat.le_trans (ih aj)<|x.up (i+m) aj
structure Inv (B:aL) (ops:Array Oper) (nt:Nat) (H:Nat->Tr ab) (N:Nat->Nat) (T:Nat->Tr AV) (Wr:Nat->Nat->Prop) (vw:aw) (Ku:World) (Kv:Act) (listed:Array Bool) (a:Act) (w:World) (h:Tr ab) (t:Tr AV) (ρ:aw):Prop where
 rel:Rel B ρ h w
 tr:TR ρ nt t a.tmps
 le:vw.le ρ
 new:∀m,m<top->ρ m≠vw m->∃i,i<ops.size/\jR listed i/\N i<=m/\m<N (i+1)
 heap:∀m,m<top->∃c,Cut ops.size (fun i=>Wr i m) (jR listed) c/\h.get m=(H c).get m
 DD:∀d,∃c,Cut ops.size (fun i=>∃o,ops[i]? =some o/\o.dst=some d) (jR listed) c/\t.get d=(T c).get d
 below:cL B Ku w
 defers:a.defers=Kv.defers
 closed:∀(j:Nat) (o:Oper) (e:Edge),ops[j]? =some o->jR listed j->e∈o.after->Region.binds .any e=true->jR listed e.on
theorem FD(hj:j<listed.size)(i:Nat):jR (listed.setIfInBounds j true) i↔i=j\/jR listed i:=by
 unfold jR;simp only[Array.getD_eq_getD_getElem?];by_cases e:i=j
 ·subst e;rw[Array.getElem?_setIfInBounds_self_of_lt hj];simp
 ·rw[Array.getElem?_setIfInBounds_ne<|Ne.symm e];simp[e]
theorem Nn(z7:J1 ops)(x:Text P YO ops nt H N T Rd Wr)(hc:fP P B YO)(hl:∀t a,YN<|YO t a)(iY:nt<=top){vw:aw}(hg:gb vw)(lP:dF (N 0) (N ops.size) vw){Ku:World}{Kv:Act}{o:Oper}(hs:listed.size=ops.size){h:Tr ab}(inv:Inv B ops nt H N T Wr vw Ku Kv listed a w h t ρ)(ho:ops[j]? =some o)(hj:listed.getD j true=false)(Vx:∀e∈o.after,Region.binds .any e=true->listed.getD e.on false=true)(b:Frame)(k:List Item)(cs:List Frame)(rest:List Nat):
 ∃a' w' h' t' gF,Inv B ops nt H N T Wr vw Ku Kv (listed.setIfInBounds j true) a' w' h' t' gF/\Steps P (lone (b.atR a<|.inRegion ops (j::rest)::k) cs w) (lone (b.atR a'<|.inRegion ops rest::k) cs w'):=by
 have z8:j<ops.size:=(Array.getElem?_eq_some_iff.1 ho).1;have EE:¬jR listed j:=by unfold jR;rw[Array.getD_eq_getD_getElem?,Array.getElem?_eq_getElem aj] at hj ⊢;simp at hj ⊢;exact hj
 have WU:=Y6 z7.V5 (jR listed) inv.closed;have ordered:∀i,i≠j->loose (Region.before ops) i j=false->(jR listed i↔i<j):=by
  intro i mB gm;unfold loose at gm;simp only[Bool.not_eq_false',Bool.or_eq_true] at gm;rcases gm with q|q
  ·obtain⟨h1,h2,_⟩:=WU i i j (Nat.le_refl _) q;exact⟨fun hd=>absurd (h2 hd) EE,fun e=>by omega⟩
  ·obtain⟨h1,_,h3⟩:=WU j j i (Nat.le_refl _) q;exact⟨fun _=>h1,fun _=>h3 fun o' e kD hm hb=>by rw[ho] at kD;cases kD;exact Vx e hm hb⟩
 have aff:∀i,loose (Region.before ops) i j=loose (Region.before ops) j i:=by intro i;unfold loose;rw[Bool.or_comm]
 have cutAt:∀(W:Nat->Prop),(∀i,i<ops.size->W i->i≠j->loose (Region.before ops) i j=false)->Cut ops.size W (jR listed) j:=by
  intro W hW;refine⟨Nat.le_of_lt z8,fun i hi hw=>?_⟩;by_cases e:i=j
  ·subst e;exact⟨fun hd=>absurd hd EE,fun q=>absurd q<|Nat.lt_irrefl _⟩
  ·exact ordered i e<|hW i hi hw e
 have UC:∀(W:Nat->Prop),(∀i,i<ops.size->W i->i≠j->loose (Region.before ops) i j=false)->Cut ops.size W (jR<|listed.setIfInBounds j true) (j+1):=by
  intro W hW;refine⟨z8,fun i hi hw=>?_⟩;rw[FD aj];by_cases e:i=j
  ·subst e;exact⟨fun _=>Nat.lt_succ_self _,fun _=>.inl rfl⟩
  ·have:=ordered i e<|hW i hi hw e;constructor
   ·rintro (q|q)
    ·exact absurd q e
    ·have:=this.1 q;omega
   ·intro q;exact .inr<|this.2 aj
 have UD:∀(W:Nat->Prop) (c:Nat),¬W j->Cut ops.size W (jR listed) c->Cut ops.size W (jR<|listed.setIfInBounds j true) c:=by
  intro W c hW WV;refine⟨WV.1,fun i hi hw=>?_⟩;rw[FD aj];have mB:i≠j:=by intro e;subst e;exact hW hw
  rw[←WV.2 i hi hw];exact⟨fun q=>q.resolve_left mB,.inr⟩
 have UE:∀i m,i<ops.size->i≠j->Wr i m->Rd j m->loose (Region.before ops) i j=false:=by
  intro i m hi mB hw hr;cases q:loose (Region.before ops) i j with
  |false=>rfl
  |true=>exact absurd hr<|x.apart i j m hi z8 mB q hw
 have amH:∀m,m<N j->m<top:=fun m hm=>Nat.lt_of_lt_of_le hm<|x.top j aj;have agE:∀m,m<top->Rd j m->h.get m=(H j).get m:=by intro m hm hr;obtain⟨c,jJ,wg⟩:=inv.heap m hm;rw[wg];exact ID (f:=fun c=>(H c).get m) (fun k hk hw=>x.mN k m hk hw hm) jJ<|cutAt _ fun i hi hw mB=>UE i m hi mB hw hr
 have agF:∀d∈o.looksAt ops,(T j).get d=t.get d:=by
  intro d hd;obtain⟨c,jJ,wg⟩:=inv.DD d;rw[wg];refine ID (f:=fun c=>(T c).get d) (fun k hk hw=>?_) (cutAt _ ?_) jJ
  ·have dq:ops[k]? =some ops[k]:=Array.getElem?_eq_getElem hk;exact x.slot k _ d dq fun e=>hw ⟨_,dq,e⟩
  ·rintro i hi ⟨y,hy,Hm⟩ mB;exact z7.DD i j y o d mB hy ho Hm<|.inl hd
 obtain⟨t1,c1,c2,c3,c4⟩:=x.again j o ho h agE;obtain⟨v,v1,v2⟩:=Sd agF c1;obtain⟨u1,Qu⟩:∃u1,ji nt t o.dst v=some u1:=by
  rcases CU v1 with⟨e,_⟩|⟨d,e,hd,_⟩
  ·rw[e];exact⟨t,rfl⟩
  ·rw[e];refine⟨t.put d<|some v,?_⟩;show @Bool.rec (fun _=>Option<|Tr AV) none (some<|t.put d<|some v) (Nat.blt d nt)=_;rw[yP,if_pos hd]
 have xR:=v2 u1 Qu;have hNj:N j<=N (j+1):=x.up j z8;have bS:dF (N j) (N<|j+1) ρ:=by
  intro m h1 h2 jW;have e0:vw m=none:=lP m (Nat.le_trans (y8 x (Nat.zero_le j) aj) h1) (Nat.lt_of_lt_of_le h2<|y8 x z8<|Nat.le_refl _) jW;by_cases e:ρ m=vw m
  ·rw[e];exact e0
  ·exfalso;obtain⟨i,hi,Qv,p1,p2⟩:=inv.new m jW e;have mB:i≠j:=by intro q;subst q;exact EE Qv
   rcases Nat.lt_or_ge i j with q|q
   ·have:=y8 x (show i+1<=j from q) aj;omega
   ·have:=y8 x (show j+1<=i from by omega) aj;omega
 have aB:At B ρ ⟨h,N j,N j,[],[]⟩ nt t w a:=⟨inv.tr,inv.rel,hg.mono inv.le,iY,⟨Nat.le_refl _,x.top j aj⟩⟩;obtain⟨σ,a',w',g1,g2,g3,g4,g5⟩:=TE hc hl ho aB (by rw[c2];exact bS) xR b k cs rest;rw[c2] at g1;refine⟨a',w',t1.h,u1,σ,⟨g2.rel,g2.tr,aw.le_trans inv.le g1.le,?_,?_,?_,inv.below.trans g4,g3.trans inv.defers,?_⟩,g5⟩
 ·intro m jW hm;by_cases e:ρ m=vw m
  ·by_cases q:N j<=m/\m<N (j+1)
   ·exact⟨j,z8,(FD aj j).2<|.inl rfl,q.1,q.2⟩
   ·exact absurd ((g1.out m jW q).trans e) hm
  ·obtain⟨i,hi,Qv,p⟩:=inv.new m jW e;exact⟨i,hi,(FD aj i).2<|.inr Qv,p⟩
 ·intro m hm;by_cases q:Wr j m
  ·refine⟨j+1,UC _ fun i hi hw mB=>?_,c3 m q⟩;obtain⟨w1,w2⟩:=x.wrote j m z8 q;by_cases e:m<N j
   ·exact UE i m hi mB hw<|w2 e
   ·obtain⟨y1,y2⟩:=x.wrote i m hi hw;have him:m<N i:=by
     rcases Nat.lt_or_ge i j with r|r
     ·have:=y8 x (show i+1<=j from r) aj;omega
     ·have:=y8 x (show j+1<=i from by omega) aj;omega
    cases yg:loose (Region.before ops) i j with
    |false=>rfl
    |true=>rw[aff] at yg;exact absurd (y2 him)<|x.apart j i m z8 hi (Ne.symm mB) yg q
  ·obtain⟨c,jJ,wg⟩:=inv.heap m hm;exact⟨c,UD _ c q jJ,(c4 m q hm).trans wg⟩
 ·intro d;by_cases q:o.dst=some d
  ·refine⟨j+1,UC _ fun i hi hw mB=>?_,?_⟩
   ·obtain⟨y,hy,Hm⟩:=hw;exact z7.DD i j y o d mB hy ho Hm<|.inr q
   ·rcases CU v1 with⟨e,_⟩|⟨d1,e,hd,e3⟩
    ·rw[e] at q;cases q
    ·rw[q] at e;cases e;rcases CU Qu with⟨e,_⟩|⟨d2,e,K7,e4⟩
     ·rw[e] at q;cases q
     ·rw[q] at e;cases e;rw[e3,e4,Tr.lM _ _ _ _<|Nat.lt_of_lt_of_le hd iY,Tr.lM _ _ _ _<|Nat.lt_of_lt_of_le hd iY,if_pos rfl,if_pos rfl]
  ·obtain⟨c,jJ,wg⟩:=inv.DD d;refine⟨c,UD _ c (fun hw=>?_) jJ,?_⟩
   ·obtain⟨y,hy,Hm⟩:=hw;rw[ho] at hy;cases hy;exact q Hm
   ·rw[←wg];rcases CU Qu with⟨_,e⟩|⟨d2,e,K7,e4⟩
    ·rw[e]
    ·rw[e4,Tr.lM _ _ _ _<|Nat.lt_of_lt_of_le K7 iY,if_neg (by intro r;subst r;exact q e)]
 ·intro j' o' e kD hd hm hb;rw[FD aj] at hd ⊢;rcases hd with rfl|hd
  ·rw[ho] at kD;cases kD;exact .inr<|Vx e hm hb
  ·exact .inr<|inv.closed j' o' e kD hd hm hb
theorem MB(n i:Nat):¬jR (Array.replicate n false) i:=by
 unfold jR;rw[Array.getD_eq_getD_getElem?];by_cases h:i<n
 ·simp[h]
 ·simp[h]
theorem ZG(bY:P.follows .mixedOrders=true)(z7:J1 ops)(hc:fP P B YO)(hl:∀t a,YN<|YO t a){id:Nat}{t1:Tr AV}{s s1:AS}(aB:At B ρ s nt t w a)(hf:dF s.nx s1.nx ρ)(h:qd P YO nt ops t s= .ok t1 s1)(b:Frame)(k:List Item)(cs:List Frame):
 D8 P B ρ s s1 nt t1 w a (lone (b.atR a<|.code (.region id ops true)::k) cs w) (fun a' w'=>lone (b.atR a' k) cs w'):=by
 obtain⟨⟨t',ms⟩,s',h1,h2⟩:=M.aR (show((mZ P YO nt ops ops.toList 0 t).bind fun x=>aH (qq (Region.before ops) x.2 x.2) <| M.pure x.1) s= .ok t1 s1 from h);obtain⟨h3,h4⟩:=cZ h2;obtain⟨rfl,rfl⟩:=bK h4;obtain⟨f',H,N,T,Rd,Wr,a1,a2,a3,a4,a5,a6,x⟩:=ads hl aB.nt aB.cO h1 h3;have lP:dF (N 0) (N ops.size) ρ:=by rw[a2,a5];exact hf
 let w1:World:={w with drawn:=w.drawn+1};have aiA:Rel B ρ s.h w1:=aB.rel.D7<|gV.drew w;have aiB:Inv B ops nt H N T Wr ρ w a (Array.replicate ops.size false) a w1 s.h t ρ:=by refine⟨aiA,aB.tr,aw.le_refl ρ,fun m _ hm=>absurd rfl hm,fun m _=>⟨0,⟨Nat.zero_le _,fun i _ _=>⟨fun q=>absurd q<|MB _ _,fun q=>absurd q<|Nat.not_lt_zero _⟩⟩,by rw[a1]⟩,fun d=>⟨0,⟨Nat.zero_le _,fun i _ _=>⟨fun q=>absurd q<|MB _ _,fun q=>absurd q<|Nat.not_lt_zero _⟩⟩,by rw[a3]⟩,(gV.drew w).below aB.rel.size,rfl,fun j o e _ q=>absurd q<|MB _ _⟩
 obtain⟨l',a',w',z1,z2,⟨h',t',gF,inv⟩,z3⟩:=aaU (P:=P) z7.V5 b k cs (fun listed a2 w2=>∃h' t' gF,Inv B ops nt H N T Wr ρ w a listed a2 w2 h' t' gF)
  (fun listed a2 w2 i o rest q1 ⟨h',t',gF,inv⟩ q3 q4 q5=>by obtain⟨a3,w3,h3,t3,ρ3,i3,st⟩:=Nn z7 x hc hl aB.nt aB.g lP q1 inv q3 q4 q5 b k cs rest;exact⟨a3,w3,⟨h3,t3,ρ3,i3⟩,st⟩)
  ops.size (w.tape w.drawn<|.order b.fn id) (Array.replicate ops.size false) a w1 iH (ab5 _) ⟨s.h,t,ρ,aiB⟩
 have all:∀(W:Nat->Prop),Cut ops.size W (jR l') ops.size:=fun W=>⟨Nat.le_refl _,fun i hi _=>⟨fun _=>hi,fun _=>z2 i hi⟩⟩;have aiC:∀m,m<top->s1.h.get m=h'.get m:=by intro m hm;obtain⟨c,c1,c2⟩:=inv.heap m hm;rw[c2, ←a4];exact ID (f:=fun c=>(H c).get m) (fun k hk hw=>x.mN k m hk hw hm) (all _) c1
 have aiD:∀d,t'.get d=(T ops.size).get d:=by intro d;obtain⟨c,c1,c2⟩:=inv.DD d;rw[c2];refine ID (f:=fun c=>(T c).get d) (fun k hk hw=>?_) c1<|all _;have dq:ops[k]? =some ops[k]:=Array.getElem?_eq_getElem hk;exact x.slot k _ d dq fun e=>hw ⟨_,dq,e⟩
 refine⟨gF,a',w',⟨inv.le,fun m jW hm=>?_⟩,⟨?_,inv.rel.congr aiC,aB.g.mono inv.le,aB.nt,f'⟩,inv.defers,inv.below,?_⟩
 ·by_cases e:gF m=ρ m
  ·exact e
  ·exfalso;obtain⟨i,hi,_,p1,p2⟩:=inv.new m jW e;have q1:=y8 x (Nat.zero_le i) aj;have q2:=y8 x (show i+1<=ops.size from hi)<|Nat.le_refl _;exact hm ⟨by omega,by omega⟩
 ·rw[←a6];exact⟨inv.tr.1,fun i x hx=>inv.tr.2 i x (by rw[aiD i];exact hx)⟩
 ·refine .head stepR_region_draw ?_;simp only[Region.schedule,bY,Bool.true_or,if_true];exact z3
end
end Go.Rn
namespace Go.Rn
open Go.RowKit
variable {l bl N:Nat} {σ:aw} {r:Loop}
def F1(ρ:aw):Option Nat->Option Nat->Prop
 |none,none=>True
 |some l,some b=>∃N,ρ l=some (b,N)
 |_,_=>False
theorem F1.mono{ρ:aw}(h:ρ.le σ):∀{x y:Option Nat},F1 ρ x y->F1 σ x y
 |none,none,k=>k
 |some _,some _,⟨N,e⟩=>⟨N,h _ _ e⟩
 |none,some _,k=>k
 |some _,none,k=>k
def vO(ρ:aw):List Nat->List Deferred->Prop
 |[],l=>l=[]
 |d::ds,l=>∃b N r,l={target:=.collected b,args:= #[]}::r/\ρ d=some (b,N)/\vO ρ ds r
theorem vO.mono{ρ:aw}(h:ρ.le σ):∀{x:List Nat} {y:List Deferred},vO ρ x y->vO σ x y
 |[],_,k=>k
 |_::_,_,⟨b,N,r,e,a,d⟩=>⟨b,N,r,e,h _ _ a,d.mono h⟩
def bt.fr:bt->AF
 | .go fr=>fr
 | .leave fr _=>fr
def Leaves(j:Option Code)(todo:List Item):Prop:=
 match j with
 |none=>todo=[]
 |some .ret=>∃k,todo= .code .ret::k
 |some (.exit id)=>∃k,todo= .code (.exit id)::k/\exitTo id k=none
 |some (.goto l)=>∃k,todo= .code (.goto l)::k/\gotoIn l k=none
 |_=>False
def bt.ok:bt->Prop
 | .go _=>True
 | .leave fr j=>Leaves j fr.todo
theorem Leaves.code{j:Option Code}{todo:List Item}(h:Leaves j todo):∀c,j=some c->ir c:=by intro c e;subst e;cases c<;>first|trivial|cases h
structure Fr (ρ:aw) (af:AF) (b:Frame) (a:Act):Prop where
 fn:b.fn=af.fn
 kind:b.kind= .normal
 round:F1 ρ af.round b.roundOf
 defs:vO ρ af.defers a.defers
 ok:jB af.todo
def nG(P:Program)(B:aL)(ρ:aw)(s s1:AS)(w:World)(af:AF)(b:Frame)(cs:List Frame)(m:Machine)(x:bt):Prop:=∃σ a' w',Ext s.nx s1.nx ρ σ/\At B σ s1 af.nt x.fr.tmps w' a'/\vO σ x.fr.defers a'.defers/\cL B w w'/\(x.fr.fn=af.fn/\x.fr.nt=af.nt/\x.fr.round=af.round)/\jB x.fr.todo/\x.ok/\Steps P m (lone (b.atR a' x.fr.todo) cs w')
section
variable {P:Program} {B:aL} {ρ:aw} {w:World} {s s1:AS} {YO:aK} {b:Frame} {a:Act} {cs:List Frame}
theorem CH(hb:w.heap[l]? =some (.loop r)):(Instr.getLoop l).run P w= .ok r w:=by simp[Instr.getLoop,getObj,Sem.run,hb]
theorem LO{o:Obj}(hb:w.heap[l]? =some (.loop r)):(setObj l o).run P w= .ok () {w with heap:=w.heap.setIfInBounds l o}:=by simp[setObj,Sem.run,hb]
theorem CK{o:ab}(h:getLoop l s= .ok o s1):bq l s= .ok o s1/\∃st bR fn t nt ps aa bb d,o= .loop st bR fn t nt ps aa bb d:=by
 unfold getLoop at h;obtain⟨o',s2,h1,h2⟩:=M.aR h;split at h2
 ·obtain⟨rfl,rfl⟩:=bK h2;exact⟨h1,_,_,_,_,_,_,_,_,_,rfl⟩
 ·cases h2
theorem No{st ba:LoopState}{bR Gm:Option Code}{fn nt d:Nat}{t:Tr AV}{ps:List Tmp}{aa bb:Code}{u:Unit}{s2:AS}(fi:bD s)(r:Rel B ρ s.h w)(hg:bq l s= .ok (.loop st bR fn t nt ps aa bb d) s2)(hl:ρ l=some (bl,N))(dq:∀c,Gm=some c->ir c)(h:bN l (some<|.loop ba Gm fn t nt ps aa bb d) s2= .ok u s1):
 s1.nx=s.nx/\∃q:Loop,w.heap[bl]? =some (.loop q)/\q.state=st/\q.pending=bR/\q.fn=fn/\TR ρ nt t q.tmps/\q.params=ps.toArray/\q.assign=aa/\q.body=bb/\nt<=top/\FW bR aa bb/\Rel B ρ s1.h {w with heap:=w.heap.setIfInBounds bl<|.loop {q with state:=ba,pending:=Gm}}/\cL B w {w with heap:=w.heap.setIfInBounds bl<|.loop {q with state:=ba,pending:=Gm}}:=by
 obtain⟨hx,j9,hh,cQ⟩:=fX hg;have ht:l<top:=Nat.lt_of_lt_of_le hx fi.nx;obtain⟨o',hb,hO,hB⟩:=r.block ht j9 hl;obtain⟨ta,db,M,rfl,yk,iY,hd,gm⟩:=hO;obtain⟨_,_,_,e1,e2⟩:=kr h;obtain⟨g3,g4⟩:=CJ (o':=.loop {state:=ba,pending:=Gm,fn:=fn,tmps:=ta,params:=ps.toArray,assign:=aa,body:=bb,defers:=db}) hb;refine⟨by rw[e2,cQ],_,hb,rfl,rfl,rfl,yk,rfl,rfl,rfl,iY,gm,?_,g3.below<|hB rfl⟩;rw[e1,hh];exact r.put ht j9 rfl rfl hl rfl g3 g4 ⟨ta,db,M,rfl,yk,iY,hd,dq,gm.assign,gm.body⟩
theorem RG{p:Option Code}(fi:bD s)(r:Rel B ρ s.h w)(hl:ρ l=some (bl,N))(h:lN l s= .ok p s1):
 s1.nx=s.nx/\(∀c,p=some c->ir c)/\∃w',(Instr.endLoop bl).run P w= .ok p w'/\Rel B ρ s1.h w'/\cL B w w':=by
 unfold lN at h;obtain⟨o,s2,h1,h2⟩:=M.aR h;obtain⟨h3,st,bR,fn,t,nt,ps,aa,bb,d,rfl⟩:=CK h1;obtain⟨h4,h5⟩:=cZ h2;obtain⟨u,s3,h6,h7⟩:=M.aR h5;obtain⟨rfl,rfl⟩:=bK h7;have j9:=(fX h3);have dq:∀c,p=some c->ir c:=by obtain⟨o',hb,hO,_⟩:=r.block (Nat.lt_of_lt_of_le j9.1 fi.nx) j9.2.1 hl;obtain⟨_,_,_,_,_,_,_,gm⟩:=hO;exact gm.bR
 obtain⟨e1,q,e2,e3,e4,_,_,_,_,_,_,_,e5,e6⟩:=No fi r h3 hl dq h6;refine⟨e1,dq,_,?_,e5,e6⟩;have ct:(q.state == LoopState.busy)=false:=by rw[e3];cases st<;>first|rfl|cases h4
 simp only[Instr.endLoop,Sem.run_bind,CH e2,Result.andThen_ok,ct,Bool.false_eq_true,if_false,LO e2,Sem.run_pure,e4]
theorem Rp{g:Operand}{ps:Array Tmp}{assign body:Code}{k:List Item}{mark:List Deferred}{Kw:World}{R:Value->World->Prop}(he:(Instr.enterLoop b.fn a.tmps ps assign body b.roundOf).run P w= .ok (l,mark) Kw)(h:jk P ((do let d ←Deferred.ofValue (a.eval g) #[.func (.yield l) #[] #[]];invoke d.target d.args:Sem Next).run P Kw) R):
 ∃v w',R v w'/\Steps P (lone (b.atR a<|.code (.rangeFunc g ps assign body)::k) cs w) (lone (b.atR {a with defers:=mark++a.defers}<|.endRangeFunc l::k) cs w'):=by
 have K8:=Frame.eval_atR b {a with defers:=mark++a.defers}<|.inRangeFunc l::k;simp only[Frame.atR] at K8;have kv:(do let d ←resolve ({tmps:=a.tmps,defers:=mark++a.defers}:Act).eval {callee:=.value g,args:= #[.const<|.func (.yield l) #[] #[]],argTypes:= #[]} 0;invoke d.target d.args:Sem Next)=
  (do let d ←Deferred.ofValue (a.eval g) #[.func (.yield l) #[] #[]];invoke d.target d.args:Sem Next):=by
  have e1:({tmps:=a.tmps,defers:=mark++a.defers}:Act).eval g=a.eval g:=by cases g<;>rfl
  have e2:(#[Operand.const<|Value.func (Fn.yield l) #[] #[]]:Array Operand).map ({tmps:=a.tmps,defers:=mark++a.defers}:Act).eval= #[Value.func (Fn.yield l) #[] #[]]:=by simp[Act.eval]
  simp only[resolve,e1,e2]
 generalize hr:(do let d ←Deferred.ofValue (a.eval g) #[.func (.yield l) #[] #[]];invoke d.target d.args:Sem Next).run P Kw=res at h;rw[←kv] at hr;have J5:stepG P true {frame:=b.atR a<|.code (.rangeFunc g ps assign body)::k,callers:=cs,status:=.running,dying:=none} w=
  GStep.after (seen P b.fn ((Instr.enterLoop b.fn a.tmps ps assign body b.roundOf).runT P w #[]).2) (stepG.apply P true (b.atR {a with defers:=mark++a.defers}<|.inRangeFunc l::k) cs none (do let d ←resolve ({tmps:=a.tmps,defers:=mark++a.defers}:Act).eval {callee:=.value g,args:= #[.const<|.func (.yield l) #[] #[]],argTypes:= #[]} 0;invoke d.target d.args) Kw):=by
  simp only[stepG,stepG.exec,Frame.atR,Sem.runT_eq,he,K8]
 unfold jk at h;split at h
 ·rename_i v w';refine⟨v,w',h,.one<|step_lone_go ?_⟩;rw[J5,GStep.bare_after, ←finish_atR_inRangeFunc l v];simp[stepG.apply,hr]
 ·rename_i w';refine⟨undef,w',h,.one<|step_lone_go ?_⟩;rw[J5,GStep.bare_after, ←finish_atR_inRangeFunc l undef];simp[stepG.apply,hr]
 ·rename_i f args w';obtain⟨e,nj,fr,⟨v,rfl,hR⟩,Bf,cq,Ow⟩:=h<|b.atR {a with defers:=mark++a.defers} (.inRangeFunc l::k)::cs;have Bg:step P (lone (b.atR a<|.code (.rangeFunc g ps assign body)::k) cs w)= .next (lone (Frame.enter P f args .normal) (b.atR {a with defers:=mark++a.defers} (.inRangeFunc l::k)::cs) w'):=step_lone_go (by rw[J5,GStep.bare_after];simp[stepG.apply,hr,Frame.atR])
  refine⟨v,nj,hR,.head Bg<|Steps.trans Bf<|.one ?_⟩;rw[←finish_atR_inRangeFunc l v];exact step_leave_returned Ow
 ·rename_i l' f tmps adt agG w';obtain⟨v,nj,hR,Bf⟩:=h (b.atR {a with defers:=mark++a.defers}<|.inRangeFunc l::k) cs;have Bg:step P (lone (b.atR a<|.code (.rangeFunc g ps assign body)::k) cs w)= .next (lone (Frame.round l' f tmps adt agG .normal) (b.atR {a with defers:=mark++a.defers} (.inRangeFunc l::k)::cs) w'):=step_lone_go (by rw[J5,GStep.bare_after];simp[stepG.apply,hr,Frame.atR])
  refine⟨v,nj,hR,.head Bg ?_⟩;rw[←finish_atR_inRangeFunc l v];exact Bf
 ·cases h
end
end Go.Rn
namespace Go.Rn
open Go.RowKit
variable {t:Tr AV} {ps:Array Tmp} {k:List Item} {body assign:Code} {af:AF} {x:bt} {nt fn:Nat}
section
variable {P:Program} {B:aL} {ρ:aw} {w:World} {s s1:AS} {YO:aK} {b:Frame} {a:Act} {cs:List Frame}
theorem CN(bS:Fr ρ af b a)(aB:At B ρ s af.nt af.tmps w a)(h1:x.fr.tmps=af.tmps)(h2:x.fr.defers=af.defers)(h3:x.fr.fn=af.fn/\x.fr.nt=af.nt/\x.fr.round=af.round)(h4:jB x.fr.todo)(h5:x.ok)(h6:Steps P (lone (b.atR a af.todo) cs w)<|lone (b.atR a x.fr.todo) cs w):nG P B ρ s s w af b cs (lone (b.atR a af.todo) cs w) x:=⟨ρ,a,w,Ext.refl _ _ _,by rw[h1];exact aB,by rw[h2];exact bS.defs,cL.refl _ _,h3,h4,h5,h6⟩
theorem SV{fr:AF}(bS:Fr ρ af b a)(hx:fr={af with tmps:=t,todo:=k})(hk:jB k)(h:D8 P B ρ s s1 af.nt t w a (lone (b.atR a af.todo) cs w) fun a' w'=>lone (b.atR a' k) cs w'):nG P B ρ s s1 w af b cs (lone (b.atR a af.todo) cs w)<|.go fr:=by subst hx;obtain⟨σ,a',w',e1,e2,e3,e4,e5⟩:=h;exact⟨σ,a',w',e1,e2,by rw[e3];exact bS.defs.mono e1.le,e4,⟨rfl,rfl,rfl⟩,hk,trivial,e5⟩
theorem adu(aB:At B ρ s nt t w a)(h1:ρ s.nx=none)(h2:ρ (s.nx+1)=none)(l1:s.nx<top)(l2:s.nx+1<top)(gm:FW none assign body):
 ∃σ,Ext s.nx (s.nx+2) ρ σ/\σ s.nx=some (w.heap.size,0)/\σ (s.nx+1)=some (w.heap.size+1,0)/\
  (Instr.enterLoop fn a.tmps ps assign body none).run P w= .ok (w.heap.size+1,[{target:=.collected w.heap.size,args:= #[]}]) {w with heap:=(w.heap.push<|.deferred<|some []).push<|.loop {state:=.ready,pending:=none,fn,tmps:=a.tmps,params:=ps,assign,body,defers:=w.heap.size}}/\
  Rel B σ ((s.h.put s.nx<|some .defs).put (s.nx+1)<|some<|.loop .ready none fn t nt ps.toList assign body s.nx) {w with heap:=(w.heap.push<|.deferred<|some []).push<|.loop {state:=.ready,pending:=none,fn,tmps:=a.tmps,params:=ps,assign,body,defers:=w.heap.size}}/\
  cL B w {w with heap:=(w.heap.push<|.deferred<|some []).push<|.loop {state:=.ready,pending:=none,fn,tmps:=a.tmps,params:=ps,assign,body,defers:=w.heap.size}}:=by
 have r1:=aB.rel.new (n:=s.nx) (o:=.defs) (o':=.deferred<|some []) (N:=0) l1 h1 rfl rfl;have o6:eO ρ s.nx (w.heap.size,0) (s.nx+1)=none:=by rw[gI ρ _ aj];exact h2
 have GH:ρ.le<|eO ρ s.nx (w.heap.size,0):=ox h1;have Kx:(eO ρ s.nx (w.heap.size,0)).le<|eO (eO ρ s.nx (w.heap.size,0)) (s.nx+1) (w.heap.size+1,0):=ox o6;have lf:({w with heap:=w.heap.push<|.deferred<|some []}:World).heap.size=w.heap.size+1:=by simp
 have r2:=r1.new (n:=s.nx+1) (o:=.loop .ready none fn t nt ps.toList assign body s.nx) (o':=.loop {state:=.ready,pending:=none,fn,tmps:=a.tmps,params:=ps,assign,body,defers:=w.heap.size}) (N:=0) l2 o6 rfl (by rw[lf];exact⟨a.tmps,w.heap.size,0,by simp,(aB.tr.mono GH).mono Kx,aB.nt,Kx _ _<|iN _ _ _,gm⟩);rw[lf] at r2;refine⟨_,⟨aw.le_trans GH Kx,fun k _ hk=>?_⟩,Kx _ _<|iN _ _ _,iN _ _ _,?_,r2,?_⟩
 ·rw[gI _ _ aj,gI _ _ aj]
 ·simp only[Instr.enterLoop,Sem.run_bind,newObj,Sem.run,Result.andThen_ok,Sem.run_pure];simp
 ·exact((gV.alloc w _).trans<|gV.alloc _ _).below aB.rel.size
theorem adv{l0 bl N:Nat}{st:LoopState}{bR:Option Code}{f0 EF d0:Nat}{t0:Tr AV}{EG:List Tmp}{a0 b0:Code}{s2:AS}(aB:At B ρ s nt t w a)(h1:ρ s.nx=none)(l1:s.nx<top)(gm:FW none assign body)(hg:bq l0 s= .ok (.loop st bR f0 t0 EF EG a0 b0 d0) s2)(hl:ρ l0=some (bl,N)):
 ∃σ w',Ext s.nx (s.nx+1) ρ σ/\(∃bb M,σ s.nx=some (bb,M)/\(Instr.enterLoop fn a.tmps ps assign body<|some bl).run P w= .ok (bb,[]) w')/\Rel B σ (s.h.put s.nx<|some<|.loop .ready none fn t nt ps.toList assign body d0) w'/\cL B w w':=by
 obtain⟨hx,j9,hh,cQ⟩:=fX hg;have ht:l0<top:=Nat.lt_of_lt_of_le hx aB.cO.nx;obtain⟨o',hb,hO,hB⟩:=aB.rel.block ht j9 hl;obtain⟨ta,db,M,rfl,yk,iY,hd,_⟩:=hO;have GH:ρ.le<|eO ρ s.nx (w.heap.size,0):=ox h1;have r1:=aB.rel.new (n:=s.nx) (o:=.loop .ready none fn t nt ps.toList assign body d0) (o':=.loop {state:=.ready,pending:=none,fn,tmps:=a.tmps,params:=ps,assign,body,defers:=db}) (N:=0) l1 h1 rfl ⟨a.tmps,db,M,by simp,aB.tr.mono GH,aB.nt,GH _ _ hd,gm⟩;refine⟨_,_,Ext.mT h1,⟨w.heap.size,0,iN _ _ _,?_⟩,r1,(gV.alloc w _).below aB.rel.size⟩;simp only[Instr.enterLoop,Sem.run_bind,CH hb,Result.andThen_ok,Sem.run_pure,newObj,Sem.run]
theorem Rq{p:Option Code}(hp:∀c,p=some c->ir c)(hk:jB k):jB<|andThen p k:=by
 cases p with
 |none=>exact hk
 |some c=>exact .cons (hp c rfl) hk
theorem Sf(p:Option Code)(k:List Item):(p.map Item.code).toList++k=andThen p k:=by cases p<;>rfl
theorem aaW{f:Operand}(hc:fP P B YO)(hl:∀t a,YN<|YO t a)(bS:Fr ρ af b a)(aB:At B ρ s af.nt af.tmps w a)(hf:dF s.nx s1.nx ρ)(rD:af.todo= .code (.rangeFunc f ps assign body)::k)(h:uV f ps.toList assign body YO af.fn af.tmps af.nt af.defers af.round k s= .ok x s1):nG P B ρ s s1 w af b cs (lone (b.atR a af.todo) cs w) x:=by
 have DL:ir assign/\ir body:=by have:=bS.ok;rw[rD] at this;exact this.head
 have gm:FW none assign body:=⟨(fun c e=>by cases e),DL.1,DL.2⟩;have hk:jB k:=by have:=bS.ok;rw[rD] at this;exact this.tail
 unfold uV at h;cases hr:af.round with
 |none=>
  rw[hr] at h;have nz:=bS.round;rw[hr] at nz;have Ho:b.roundOf=none:=by
   cases e:b.roundOf with
   |none=>rfl
   |some _=>rw[e] at nz;cases nz
  obtain⟨df,s2,h1,h⟩:=M.aR h;obtain⟨l,s3,h2,h⟩:=M.aR h;obtain⟨g,h3,h⟩:=bu h;obtain⟨y,s4,h4,h⟩:=M.aR h;obtain⟨p,s5,h5,h⟩:=M.aR h;obtain⟨rfl,rfl⟩:=bK h;obtain⟨t1,rfl,rfl⟩:=uM h1;obtain⟨t2,rfl,rfl⟩:=uM h2;have lG:bD {s with h:=(s.h.put s.nx<|some .defs).put (s.nx+1)<|some<|.loop .ready none af.fn af.tmps af.nt ps.toList assign body s.nx,nx:=s.nx+1+1}:=⟨by have:=aB.cO.mark;show s.mark<=s.nx+1+1;omega,t2⟩;have Hp:=(YN.mY hl _ _).le lG h4;have mV:=(YN.mY hl _ _).cO lG h4;have Qw:=(YN.lN _).le mV h5;have PG:s.nx+2<=s4.nx:=Hp;obtain⟨σ,e1,e2,e3,e4,e5,e6⟩:=adu (P:=P) (fn:=af.fn) (ps:=ps) aB (hf _ (Nat.le_refl _) aj aj) (hf _ aj aj aj) t1 t2 gm;have yh:VR σ g<|a.eval f:=(FN aB.tr aB.g h3).mono e1.le;have lP:dF (s.nx+2) s4.nx σ:=(hf.sub (Nat.le_refl _) Qw).next aj e1
  have Pb:=SQ (P:=P) hc (aB.g.mono e1.le) lG e5 lP yh (args:=[.yield<|s.nx+1]) (vs:= #[.func (.yield<|w.heap.size+1) #[] #[]]) (by simp only[aA,VR];exact⟨_,_,rfl,⟨_,_,e3,rfl⟩,rfl⟩) h4;have GI:=(show(Instr.enterLoop b.fn a.tmps ps assign body b.roundOf).run P w=(Instr.enterLoop af.fn a.tmps ps assign body none).run P w by rw[bS.fn,Ho]).trans e4;obtain⟨v,w',⟨τ,g1,g2,g3,g4⟩,st⟩:=Rp (cs:=cs) (k:=k) GI Pb;obtain⟨q1,q2,w5,q3,q4,q5⟩:=RG (P:=P) mV g3 (g1.le _ _ e3) h5;have ext:Ext s.nx s4.nx ρ τ:=e1.trans aj PG g1;refine⟨τ,{a with defers:=[{target:=.collected w.heap.size,args:= #[]}]++a.defers},w5,by rw[q1];exact ext,⟨aB.tr.mono ext.le,q4,aB.g.mono ext.le,aB.nt,(YN.lN _).cO mV h5⟩,?_,(e6.trans g4).trans q5,⟨rfl,rfl,hr.symm⟩,Rq q2 hk,trivial,?_⟩
  ·exact⟨w.heap.size,0,a.defers,rfl,g1.le _ _ e2,bS.defs.mono ext.le⟩
  ·rw[rD];refine Steps.trans st<|.one ?_;rw[stepR_endRangeFunc q3,Sf];rfl
 |some l0=>
  rw[hr] at h;have nz:=bS.round;rw[hr] at nz;obtain⟨bl,Ho,N0,Qx⟩:∃bl,b.roundOf=some bl/\∃N,ρ l0=some (bl,N):=by
   cases e:b.roundOf with
   |none=>rw[e] at nz;cases nz
   |some bl=>rw[e] at nz;exact⟨bl,rfl,nz⟩
  obtain⟨ob,s2,h1,h⟩:=M.aR h;obtain⟨ye,st0,amI,f0,t0,EF,EG,a0,b0,d0,rfl⟩:=CK h1;obtain⟨l,s3,h2,h⟩:=M.aR h;obtain⟨g,h3,h⟩:=bu h;obtain⟨y,s4,h4,h⟩:=M.aR h;obtain⟨p,s5,h5,h⟩:=M.aR h;obtain⟨rfl,rfl⟩:=bK h;obtain⟨hx,j9,hh,cQ⟩:=fX ye;have eG:bD s2:=(YN.bq _).cO aB.cO ye;obtain⟨t2,rfl,rfl⟩:=uM h2;have lG:bD {s2 with h:=s2.h.put s2.nx<|some<|.loop .ready none af.fn af.tmps af.nt ps.toList assign body d0,nx:=s2.nx+1}:=⟨by have:=eG.mark;show s2.mark<=s2.nx+1;omega,t2⟩;have Hp:=(YN.mY hl _ _).le lG h4;have mV:=(YN.mY hl _ _).cO lG h4;have Qw:=(YN.lN _).le mV h5;have PG:s2.nx+1<=s4.nx:=Hp;obtain⟨σ,w2,e1,⟨bb,M2,e3,e4⟩,e5,e6⟩:=adv (P:=P) (fn:=af.fn) (ps:=ps) aB (hf _ (Nat.le_refl _) aj aj) (by rw[←cQ];omega) gm ye Qx;rw[←hh, ←cQ] at e5;rw[←cQ] at e1 e3;have yh:VR σ g<|a.eval f:=(FN aB.tr aB.g h3).mono e1.le;have lP:dF (s2.nx+1) s4.nx σ:=(show dF s2.nx s4.nx ρ by rw[cQ];exact hf.sub (Nat.le_refl _) Qw).next aj e1
  have Pb:=SQ (P:=P) hc (aB.g.mono e1.le) lG e5 lP yh (args:=[.yield s2.nx]) (vs:= #[.func (.yield bb) #[] #[]]) (by simp only[aA,VR];exact⟨_,_,rfl,⟨_,_,e3,rfl⟩,rfl⟩) h4;have GI:=(show(Instr.enterLoop b.fn a.tmps ps assign body b.roundOf).run P w=(Instr.enterLoop af.fn a.tmps ps assign body<|some bl).run P w by rw[bS.fn,Ho]).trans e4;obtain⟨v,w',⟨τ,g1,g2,g3,g4⟩,st⟩:=Rp (cs:=cs) (k:=k) GI Pb;obtain⟨q1,q2,w5,q3,q4,q5⟩:=RG (P:=P) mV g3 (g1.le _ _ e3) h5;have ext:Ext s.nx s4.nx ρ τ:=by rw[←cQ];exact e1.trans aj PG g1
  refine⟨τ,{a with defers:=[]++a.defers},w5,by rw[q1];exact ext,⟨aB.tr.mono ext.le,q4,aB.g.mono ext.le,aB.nt,(YN.lN _).cO mV h5⟩,?_,(e6.trans g4).trans q5,⟨rfl,rfl,hr.symm⟩,Rq q2 hk,trivial,?_⟩
  ·exact bS.defs.mono ext.le
  ·rw[rD];refine Steps.trans st<|.one ?_;rw[stepR_endRangeFunc q3,Sf];rfl
end
end Go.Rn
namespace Go.Rn
open Go.RowKit
variable {x:bt} {s2:AS} {k:List Item} {c:Code} {af:AF}
theorem Y7{P:Program}{b:Frame}{a:Act}{cs:List Frame}{w:World}:step P (lone (b.atR a<|.inScope c::k) cs w)= .next (lone (b.atR a k) cs w):=step_lone_go (by simp[stepG,stepG.exec,Frame.atR])
theorem ZH{P:Program}{b:Frame}{a:Act}{cs:List Frame}{w:World}:step P (lone (b.atR a<|.code (.scope c)::k) cs w)= .next (lone (b.atR a<|.code c:: .inScope c::k) cs w):=step_lone_go (by simp[stepG,stepG.exec,Frame.atR])
section
variable {P:Program} {B:aL} {ρ:aw} {w:World} {s s1:AS} {YO:aK} {b:Frame} {a:Act} {cs:List Frame}
theorem aaX{l bl N:Nat}{bR:Option Code}{f0 EF d0:Nat}{t0:Tr AV}{EG:List Tmp}{a0 b0:Code}{u:Unit}(fi:bD s)(r:Rel B ρ s.h w)(hl:ρ l=some (bl,N))(hg:bq l s= .ok (.loop .ready bR f0 t0 EF EG a0 b0 d0) s2)(h:bN l (some<|.loop .busy bR f0 t0 EF EG a0 b0 d0) s2= .ok u s1):
 s1.nx=s.nx/\∃w',(Instr.beginRound bl).run P w= .ok () w'/\Rel B ρ s1.h w'/\cL B w w':=by
 have j9:=fX hg;have dq:∀c,bR=some c->ir c:=by obtain⟨o',hb,hO,_⟩:=r.block (Nat.lt_of_lt_of_le j9.1 fi.nx) j9.2.1 hl;obtain⟨_,_,_,_,_,_,_,gm⟩:=hO;exact gm.bR
 obtain⟨e1,q,e2,e3,e4,_,_,_,_,_,_,_,e5,e6⟩:=No fi r hg hl dq h;refine⟨e1,_,?_,e5,e6⟩;subst e4;simp only[Instr.beginRound,Sem.run_bind,CH e2,Result.andThen_ok,LO e2,e3,Sem.run_pure]
theorem MC(bY:P.follows .mixedOrders=true)(hc:fP P B YO)(hl:∀t a,YN<|YO t a)(bS:Fr ρ af b a)(aB:At B ρ s af.nt af.tmps w a)(hf:dF s.nx s1.nx ρ)(h:jf P YO af s= .ok x s1):nG P B ρ s s1 w af b cs (lone (b.atR a af.todo) cs w) x:=by
 obtain⟨fn,t,nt,todo,d,r⟩:=af;cases todo with
 |nil=>obtain⟨rfl,rfl⟩:=bK (show M.pure (.leave ⟨fn,t,nt,[],d,r⟩ none) s= .ok x s1 from h);exact CN bS aB rfl rfl ⟨rfl,rfl,rfl⟩ .nil rfl<|Steps.refl _ _
 |cons it k=>
  have hk:jB k:=bS.ok.tail;have pU:Jp it:=bS.ok.head;have h':(vt P it).val YO fn t nt d r k s= .ok x s1:=h;have calm:∀(l:List Item),jB l->M.pure (.go ⟨fn,t,nt,l,d,r⟩) s= .ok x s1->step P (lone (b.atR a<|it::k) cs w)= .next (lone (b.atR a l) cs w)->nG P B ρ s s1 w ⟨fn,t,nt,it::k,d,r⟩ b cs (lone (b.atR a<|it::k) cs w) x:=by intro l lZ hp hs;obtain⟨rfl,rfl⟩:=bK hp;exact CN bS aB rfl rfl ⟨rfl,rfl,rfl⟩ lZ trivial<|.one hs
  cases it with
  |code c=>
   cases c with
   |skip=>exact calm k hk h' stepR_skip
   |label l=>exact calm k hk h' stepR_label
   |seq p q=>exact calm (.code p:: .code q::k) (.cons pU.1<|.cons pU.2 hk) h' stepR_seq
   |cond c p q=>
    obtain⟨v,h1,h2⟩:=bu (show(aC (aI t c) fun v=>aC (xf v) fun v=>M.pure<|.go ⟨fn,t,nt,.code (@Bool.rec (fun _=>Code) q p v)::k,d,r⟩) s= .ok x s1 from h');obtain⟨y,h3,h4⟩:=bu h2;have hv:=(FN aB.tr aB.g h1).TB h3;cases y with
    |true=>exact calm (.code p::k) (.cons pU.1 hk) h4<|stepR_cond hv
    |false=>exact calm (.code q::k) (.cons pU.2 hk) h4<|stepR_cond hv
   |block id c=>exact calm (.code c:: .inBlock id::k) (.cons pU<|.cons trivial hk) h' stepR_block
   |loop c=>exact calm (.code c:: .inLoop c::k) (.cons pU<|.cons pU hk) h' stepR_loop
   |scope c=>exact calm (.code c:: .inScope c::k) (.cons pU<|.cons pU hk) h' ZH
   |exit id=>
    have h2:DG id YO fn t nt d r k s= .ok x s1:=h';unfold DG at h2;cases e:exitTo id k with
    |some k'=>rw[e] at h2;exact calm k' (Mr e hk) h2<|stepR_exit e
    |none=>rw[e] at h2;obtain⟨rfl,rfl⟩:=bK h2;exact CN bS aB rfl rfl ⟨rfl,rfl,rfl⟩ bS.ok ⟨k,rfl,e⟩<|Steps.refl _ _
   |goto l=>
    have h2:DH l YO fn t nt d r k s= .ok x s1:=h';unfold DH at h2;cases e:gotoIn l k with
    |some k'=>rw[e] at h2;exact calm k' (Ms e hk) h2<|stepR_goto e
    |none=>rw[e] at h2;obtain⟨rfl,rfl⟩:=bK h2;exact CN bS aB rfl rfl ⟨rfl,rfl,rfl⟩ bS.ok ⟨k,rfl,e⟩<|Steps.refl _ _
   |ret=>obtain⟨rfl,rfl⟩:=bK (show M.pure (.leave ⟨fn,t,nt,.code .ret::k,d,r⟩<|some .ret) s= .ok x s1 from h');exact CN bS aB rfl rfl ⟨rfl,rfl,rfl⟩ bS.ok ⟨k,rfl⟩<|Steps.refl _ _
   |region id ops draw=>
    cases draw with
    |false=>obtain⟨t1,s2,h1,h2⟩:=M.aR (show((jj P YO nt ops ops.toList t).bind fun t=>M.pure<|.go ⟨fn,t,nt,k,d,r⟩) s= .ok x s1 from h');obtain⟨rfl,rfl⟩:=bK h2;exact SV bS rfl hk<|Z9 hc hl aB hf h1 b k cs
    |true=>obtain⟨t1,s2,h1,h2⟩:=M.aR (show((qd P YO nt ops t).bind fun t=>M.pure<|.go ⟨fn,t,nt,k,d,r⟩) s= .ok x s1 from h');obtain⟨rfl,rfl⟩:=bK h2;exact SV bS rfl hk<|ZG bY (pU rfl) hc hl aB hf h1 b k cs
   |rangeFunc f ps p q=>exact aaW hc hl bS aB hf rfl h'
   |refuse Cf=>cases h'
  |inBlock id=>exact calm k hk h' stepR_inBlock
  |inScope c=>exact calm k hk h' Y7
  |inLoop c=>exact calm (.code c:: .inLoop c::k) (.cons pU<|.cons pU hk) h' stepR_inLoop
  |beginRound=>
   have h2:yY YO fn t nt d r k s= .ok x s1:=h';unfold yY at h2;cases r with
   |none=>cases h2
   |some l=>
    obtain⟨bl,Ho,N0,Qx⟩:∃bl,b.roundOf=some bl/\∃N,ρ l=some (bl,N):=by
     have nz:=bS.round;cases e:b.roundOf with
     |none=>rw[e] at nz;cases nz
     |some bl=>rw[e] at nz;exact⟨bl,rfl,nz⟩
    obtain⟨o,s2,h3,h4⟩:=M.aR h2;obtain⟨h5,st,bR,f0,t0,EF,EG,a0,b0,d0,rfl⟩:=CK h3;cases st<;>first|(cases h4;done)|skip
    obtain⟨u,s3,h6,h7⟩:=M.aR h4;obtain⟨rfl,rfl⟩:=bK h7;obtain⟨e1,w',e2,e3,e4⟩:=aaX (P:=P) aB.cO aB.rel Qx h5 h6;have eG:bD s1:=(YN.bN _ _).cO ((YN.bq _).cO aB.cO h5) h6;exact⟨ρ,a,w',by rw[e1];exact Ext.refl _ _ _,⟨aB.tr,e3,aB.g,aB.nt,eG⟩,bS.defs,e4,⟨rfl,rfl,rfl⟩,hk,trivial,.one<|stepR_beginRound Ho e2⟩
  |_=>cases h'
theorem nG.Pc{fr:AF}{m:Machine}(bS:Fr ρ af b a)(h:nG P B ρ s s2 w af b cs m<|.go fr)(mU:s.nx<=s2.nx)(pT:s2.nx<=s1.nx)(k:∀(σ:aw) (a':Act) (w':World),Ext s.nx s2.nx ρ σ->Fr σ fr b a'->At B σ s2 fr.nt fr.tmps w' a'->nG P B σ s2 s1 w' fr b cs (lone (b.atR a' fr.todo) cs w') x):nG P B ρ s s1 w af b cs m x:=by obtain⟨σ,a',w',e1,e2,e3,e4,⟨e5,e6,e7⟩,e8,_,e9⟩:=h;have iZ:fr.nt=af.nt:=e6;obtain⟨τ,Hk,nj,f1,f2,f3,f4,⟨f5,f6,f7⟩,f8,f9,f10⟩:=k σ a' w' e1 ⟨bS.fn.trans e5.symm,bS.kind,by have:=bS.round.mono e1.le;rw[←e7] at this;exact this,e3,e8⟩ (by rw[iZ];exact e2);exact⟨τ,Hk,nj,e1.trans mU pT f1,by rw[iZ] at f2;exact f2,f3,e4.trans f4,⟨f5.trans e5,f6.trans e6,f7.trans e7⟩,f8,f9,Steps.trans e9 f10⟩
theorem Fk(bY:P.follows .mixedOrders=true)(hc:fP P B YO)(hl:∀t a,YN<|YO t a):∀(n:Nat) {ρ:aw} {w:World} {s s1:AS} {a:Act} {af:AF} {x:bt},Fr ρ af b a->At B ρ s af.nt af.tmps w a->dF s.nx s1.nx ρ->
 nC P YO n af s= .ok x s1->nG P B ρ s s1 w af b cs (lone (b.atR a af.todo) cs w) x
 |0,ρ,w,s,s1,a,af,x,bS,aB,hf,h=>MC bY hc hl bS aB hf h
 |n+1,ρ,w,s,s1,a,af,x,bS,aB,hf,h=>by
  obtain⟨y,s2,h1,h2⟩:=M.aR (show((nC P YO n af).bind fun x=> @bt.rec (fun _=>M bt) (nC P YO n) (fun fr j=>M.pure<|.leave fr j) x) s= .ok x s1 from h);have mU:=(YN.nC P hl n af).le aB.cO h1;have eG:=(YN.nC P hl n af).cO aB.cO h1;cases y with
  |go fr=>have se:nC P YO n fr s2= .ok x s1:=h2;have pT:=(YN.nC P hl n fr).le eG se;have w1:=Fk bY hc hl n bS aB (hf.sub (Nat.le_refl _) pT) h1;exact w1.Pc bS mU pT fun σ a' w' e1 GJ GK=>Fk bY hc hl n GJ GK (hf.next mU e1) se
  |leave fr j=>obtain⟨rfl,rfl⟩:=bK (show M.pure (.leave fr j) s2= .ok x s1 from h2);exact Fk bY hc hl n bS aB hf h1
theorem MD(bY:P.follows .mixedOrders=true)(hc:fP P B YO)(hl:∀t a,YN<|YO t a):∀(n k:Nat) {ρ:aw} {w:World} {s s1:AS} {a:Act} {af:AF} {x:bt},Fr ρ af b a->At B ρ s af.nt af.tmps w a->dF s.nx s1.nx ρ->
 oL P YO n k af s= .ok x s1->nG P B ρ s s1 w af b cs (lone (b.atR a af.todo) cs w) x
 |0,k,ρ,w,s,s1,a,af,x,bS,aB,hf,h=>by cases h
 |n+1,k,ρ,w,s,s1,a,af,x,bS,aB,hf,h=>by
  obtain⟨y,s2,h1,h2⟩:=M.aR (show((nC P YO k af).bind fun x=> @bt.rec (fun _=>M bt) (fun fr=>oL P YO n (Nat.succ k) fr) (fun fr j=>M.pure<|.leave fr j) x) s= .ok x s1 from h);have mU:=(YN.nC P hl k af).le aB.cO h1;have eG:=(YN.nC P hl k af).cO aB.cO h1;cases y with
  |go fr=>have se:oL P YO n (k+1) fr s2= .ok x s1:=h2;have pT:=(YN.oL P hl n (k+1) fr).le eG se;have w1:=Fk (b:=b) (cs:=cs) bY hc hl k bS aB (hf.sub (Nat.le_refl _) pT) h1;exact w1.Pc bS mU pT fun σ a' w' e1 GJ GK=>MD bY hc hl n (k+1) GJ GK (hf.next mU e1) se
  |leave fr j=>obtain⟨rfl,rfl⟩:=bK (show M.pure (.leave fr j) s2= .ok x s1 from h2);exact Fk bY hc hl k bS aB hf h1
end
end Go.Rn
namespace Go.Rn
open Go.RowKit
variable {x:AV} {l bl N:Nat}
section
variable {P:Program} {B:aL} {ρ:aw} {w:World} {s s1:AS} {YO:aK}
theorem LQ{nt:Nat}(iY:nt<=top):∀{ps:List Tmp} {args:List AV} {vs:List Value} {t:Tr AV} {arr:Array Value},TR ρ nt t arr->aA ρ args vs->(∀p∈ps,p<nt)->
 TR ρ nt (jy ps args t) ((ps.zip vs).foldl (fun tmps (t,a)=>tmps.setIfInBounds t a) arr)
 |[],args,vs,t,arr,h,_,_=>by simpa[jy] using h
 |p::ps,[],vs,t,arr,h,hv,_=>by simp only[aA] at hv;subst hv;simpa[jy] using h
 |p::ps,v::args,vs,t,arr,h,hv,hp=>by simp only[aA] at hv;obtain⟨u,us,rfl,h1,h2⟩:=hv;simp only[jy,List.zip_cons_cons,List.foldl_cons];exact LQ iY (h.set (hp p List.mem_cons_self) iY h1) h2 fun q hq=>hp q<|List.mem_cons_of_mem _ hq
theorem RH{j:Option Code}(fi:bD s)(r:Rel B ρ s.h w)(hl:ρ l=some (bl,N))(hj:∀c,j=some c->ir c)(h:endRound l j s= .ok x s1):
 s1.nx=s.nx/\x= .bool j.isNone/\∃w',(Instr.endRound bl j).run P w= .ok (.bool j.isNone) w'/\Rel B ρ s1.h w'/\cL B w w':=by
 unfold endRound at h;obtain⟨o,s2,h1,h2⟩:=M.aR h;obtain⟨h3,st,bR,fn,t,nt,ps,aa,bb,d,rfl⟩:=CK h1;obtain⟨u,s3,h4,h5⟩:=M.aR h2;obtain⟨rfl,rfl⟩:=bK h5;obtain⟨e1,q,e2,e3,e4,_,_,_,_,_,_,_,e5,e6⟩:=No fi r h3 hl hj h4;refine⟨e1,rfl,_,?_,e5,e6⟩;cases j<;>simp only[Instr.endRound,Sem.run_bind,CH e2,Result.andThen_ok,LO e2,Sem.run_pure]<;>rfl
theorem aaY(bY:P.follows .mixedOrders=true)(hc:fP P B YO)(hl:∀t a,YN<|YO t a){args:List AV}{vs:Array Value}(fi:bD s)(r:Rel B ρ s.h w)(hg:gb ρ)(hf:dF s.nx s1.nx ρ)(h:AI P YO l args s= .ok x s1)(hv:aA ρ args vs.toList)(Cg:ρ l=some (bl,N)):jk P ((Instr.yield bl vs).run P w)<|j8 B ρ s s1 w x:=by
 unfold AI at h;obtain⟨o,s2,h1,h2⟩:=M.aR h;obtain⟨h3,st,bR,fn,t,nt,ps,aa,bb,d,rfl⟩:=CK h1;obtain⟨h4,h5⟩:=cZ h2;obtain⟨y,s3,h6,h7⟩:=M.aR h5;obtain⟨q1,q2⟩:=and_true.1 h4;have hlen:=dT.1 q1;have Hr:∀p∈ps,p<nt:=fun p hp=>by have:=List.all_eq_true.1 q2 p hp;rw[←blt_eq];exact this
 obtain⟨hx,j9,hh,cQ⟩:=fX h3;have eG:bD s2:=(YN.bq _).cO fi h3;have bB:l<top:=Nat.lt_of_lt_of_le hx fi.nx;obtain⟨o',hb,hO,hB⟩:=r.block bB j9 Cg;obtain⟨ta,db,M,rfl,yk,iY,hd,gm⟩:=hO;have Ox:(Instr.yield bl vs).run P w= .ok (.round bl fn ((ps.zip vs.toList).foldl (fun tmps (t,a)=>tmps.setIfInBounds t a) ta) aa bb) w:=by
  have lf:¬(vs.size≠ps.toArray.size):=by have:=hv.length;simp at this ⊢;omega
  simp only[Instr.yield,Sem.run_bind,CH hb,Result.andThen_ok,if_neg lf,Sem.run_pure];rw[←Array.foldl_toList];simp
 rw[Ox];intro c cs;cases y with
 |go fr=>cases h7
 |leave fr j=>
  have B9:endRound l j s3= .ok x s1:=h7;let b:Frame:={(default:Frame) with fn:=fn,kind:=.normal,roundOf:=some bl};let a:Act:={tmps:=(ps.zip vs.toList).foldl (fun tmps (t,a)=>tmps.setIfInBounds t a) ta,defers:=[]};have pT:=(YN.oL P hl depth 2 ⟨fn,jy ps args t,nt,[.code aa,.beginRound,.code bb],[],some l⟩).le eG h6;have lG:=(YN.oL P hl depth 2 ⟨fn,jy ps args t,nt,[.code aa,.beginRound,.code bb],[],some l⟩).cO eG h6;have Hs:=(YN.endRound l j).le lG B9;have bS:Fr ρ ⟨fn,jy ps args t,nt,[.code aa,.beginRound,.code bb],[],some l⟩ b a:=⟨rfl,rfl,⟨N,Cg⟩,rfl,.cons gm.assign<|.cons trivial<|.cons gm.body .nil⟩;have aB:At B ρ s2 nt (jy ps args t) w a:=⟨LQ iY yk hv Hr,by rw[hh];exact r,hg,iY,eG⟩;obtain⟨σ,a',w',e1,e2,e3,e4,_,_,e6,e7⟩:=MD (cs:=c::cs) bY hc hl depth 2 bS aB (by rw[cQ];exact hf.sub (Nat.le_refl _) Hs) h6;have iZ:Leaves j fr.todo:=e6;obtain⟨f1,rfl,nj,f2,f3,f4⟩:=RH (P:=P) lG e2.rel (e1.le _ _ Cg) iZ.code B9;refine⟨.bool j.isNone,nj,⟨σ,by rw[f1, ←cQ];exact e1,by simp only[VR],f3,e4.trans f4⟩,?_⟩;have th:Frame.round bl fn ((ps.zip vs.toList).foldl (fun tmps (t,a)=>tmps.setIfInBounds t a) ta) aa bb .normal=b.atR a [.code aa,.beginRound,.code bb]:=rfl;rw[th];refine Steps.trans e7<|.one ?_;show step P (lone (b.atR a' fr.todo) (c::cs) w')=_;unfold Leaves at iZ;split at iZ
  ·rw[iZ];exact stepR_round_end rfl rfl f2
  ·obtain⟨k,e⟩:=iZ;rw[e];exact stepR_round_ret rfl rfl f2
  ·obtain⟨k,e,e'⟩:=iZ;rw[e];exact stepR_round_exit rfl rfl e' f2
  ·obtain⟨k,e,e'⟩:=iZ;rw[e];exact stepR_round_goto rfl rfl e' f2
  ·cases iZ
theorem Zk{nt:Nat}{t:Tr AV}{tmps:Array Value}{rv:ResultVar}(ht:TR ρ nt t tmps)(fi:bD s)(r:Rel B ρ s.h w)(h:AH P t rv s= .ok x s1):
 s1.h=s.h/\s1.nx=s.nx/\bD s1/\∃v,(match rv with| .tmp t=>pure (tmps.getD t undef)| .cell a t=>do Go.loadVar t (←asAddr (tmps.getD a undef)):Sem Value).run P w= .ok v w/\VR ρ x v:=by
 cases rv with
 |tmp i=>obtain⟨hx,rfl⟩:=hU (show lift (t.get i) s= .ok x s1 from h);exact⟨rfl,rfl,fi,_,rfl,ht.2 i x hx⟩
 |cell a ty=>
  obtain⟨ad,s2,h1,h2⟩:=M.aR (show((lift (match t.get a with|some x=>addrOf x|none=>none)).bind fun a=>Rn.loadVar P ty a.1 a.2) s= .ok x s1 from h);obtain⟨h3,hs⟩:=hU h1;subst hs;cases Qy:t.get a with
  |none=>rw[Qy] at h3;cases h3
  |some xa=>
  rw[Qy] at h3;obtain⟨b,N,h4,h5⟩:=(ht.2 a xa Qy).Nj h3;obtain⟨a1,a2,v,a3,a4⟩:=RM (P:=P) fi r h2 h4;exact⟨a1,a2,(YN.loadVar P ty _ _).cO fi h2,v,by simp[h5,asAddr,a3],a4⟩
theorem E9{nt:Nat}{t:Tr AV}{tmps:Array Value}(ht:TR ρ nt t tmps):∀{l:List ResultVar} {vs:List AV} {s s1:AS},bD s->Rel B ρ s.h w->qc P t l s= .ok vs s1->
 s1.h=s.h/\s1.nx=s.nx/\∃us,(l.mapM fun| .tmp t=>pure (tmps.getD t undef)| .cell a t=>do Go.loadVar t (←asAddr (tmps.getD a undef)):Sem<|List Value).run P w= .ok us w/\aA ρ vs us
 |[],vs,s,s1,fi,r,h=>by obtain⟨rfl,rfl⟩:=bK (show M.pure [] s= .ok vs s1 from h);exact⟨rfl,rfl,[],rfl,by simp[aA]⟩
 |rv::l,vs,s,s1,fi,r,h=>by
  obtain⟨v,s2,h1,h2⟩:=M.aR (show((AH P t rv).bind fun v=>(qc P t l).bind fun vs=>M.pure<|v::vs) s= .ok vs s1 from h);obtain⟨us,s3,h3,h4⟩:=M.aR h2;obtain⟨rfl,rfl⟩:=bK h4;obtain⟨a1,a2,a3,u,a4,a5⟩:=Zk ht fi r h1;obtain⟨b1,b2,K9,b3,b4⟩:=E9 ht a3 (by rw[a1];exact r) h3;refine⟨b1.trans a1,b2.trans a2,u::K9,?_,?_⟩
  ·rw[List.mapM_cons];simp only[Sem.run_bind,a4,Result.andThen_ok,b3,Sem.run_pure]
  ·simp only[aA];exact⟨u,K9,rfl,a5,b4⟩
theorem Fa{fr:Frame}{cs:List Frame}:∀{l:List Nat} {ds:List Deferred} {s s1:AS} {w:World} {u:Unit},bD s->Rel B ρ s.h w->vO ρ l ds->oq l s= .ok u s1->
 s1.nx=s.nx/\bD s1/\∃w',Rel B ρ s1.h w'/\cL B w w'/\∀(fr:Frame) (cs:List Frame),fr.mode≠ .run->fr.defers=ds->Steps P (lone fr cs w) (lone {fr with defers:=[]} cs w')
 |[],ds,s,s1,w,u,fi,r,hd,h=>by obtain⟨_,rfl⟩:=bK (show M.pure () s= .ok u s1 from h);have K7:ds=[]:=hd;subst K7;exact⟨rfl,fi,w,r,cL.refl _ _,fun fr cs _ e=>by rw[←e];exact Steps.refl _ _⟩
 |d::l,ds,s,s1,w,u,fi,r,hd,h=>by
  obtain⟨b,N,ds',rfl,hn,hds⟩:=hd;obtain⟨o,s2,h1,h2⟩:=M.aR (show((bq d).bind fun o=>match o with| .defs=>(bN d none).bind fun _=>oq l|_=>fail) s= .ok u s1 from h);obtain⟨hx,j9,hh,cQ⟩:=fX h1;have eG:=(YN.bq d).cO fi h1;have bB:d<top:=Nat.lt_of_lt_of_le hx fi.nx;obtain⟨o',hb,hO,hB⟩:=r.block bB j9 hn;cases o with
  |defs=>
   obtain⟨u2,s3,h3,h4⟩:=M.aR h2;have lG:=(YN.bN d none).cO eG h3;obtain⟨_,_,_,i1,i2⟩:=kr h3;have hO':o'= .deferred (some []):=hO;subst hO';obtain⟨g3,g4⟩:=CJ (o':=.deferred none) hb;obtain⟨k1,_⟩:=r.Vt bB j9 rfl rfl hn g3;obtain⟨e1,e2,w',e3,e4,e5⟩:=Fa (fr:=fr) (cs:=cs) lG (by rw[i1,hh];exact k1) hds h4;refine⟨by rw[e1,i2,cQ],e2,w',e3,(g3.below<|hB rfl).trans e4,fun fr cs hm hdf=>?_⟩;have agH:(Instr.takeDeferred b).run P w= .ok [] {w with heap:=w.heap.setIfInBounds b<|.deferred none}:=by simp[Instr.takeDeferred,getObj,setObj,Sem.run,hb]
   have hs:=step_collected (P:=P) (cs:=cs) hm hdf rfl agH;exact .head hs<|e5 {fr with defers:=[]++ds'} cs hm rfl
  |_=>cases h2
end
end Go.Rn
namespace Go.Rn
open Go.RowKit
variable {x:AV} {vs:Array Value} {args:List AV}
section
variable {P:Program} {B:aL} {ρ:aw} {w:World} {s s1:AS} {YO:aK}
theorem HT(hv:aA ρ args vs.toList)(n:Nat)(hn:max n args.length<=top):TR ρ (max n args.length) (ep args)<|vs++Array.replicate (n - vs.size) undef:=by
 have hlen:=hv.length;simp only[Array.length_toList] at hlen;refine⟨by simp;omega,fun i x hx=>?_⟩;unfold ep at hx;rw[Tr.sO _ _ _ _ aj] at hx;by_cases h:i<args.length
 ·rw[if_pos aj,Nat.sub_zero] at hx;obtain⟨v,h1,h2⟩:=hv.get i x hx;rw[Array.getD_eq_getD_getElem?,Array.getElem?_append_left aj];rw[Array.getElem?_toList] at h1;rw[h1];exact h2
 ·rw[if_neg aj,Tr.get_nil] at hx;cases hx
def Ju:List AV->AV
 |[v]=>v
 |l=>.tuple l
def mg:List Value->Value
 |[v]=>v
 |l=>.tuple l.toArray
theorem Io:∀{rs:List AV} {us:List Value},aA ρ rs us->VR ρ (Ju rs) (mg us)
 |[],us,h=>by simp only[aA] at h;subst h;simp only[Ju,mg,VR,aA];exact⟨_,rfl,rfl⟩
 |[v],us,h=>by simp only[aA] at h;obtain⟨u,K9,rfl,g1,rfl⟩:=h;exact g1
 |v::v2::rs,us,h=>by simp only[aA] at h;obtain⟨u,K9,rfl,g1,u2,nk,rfl,g3,g4⟩:=h;simp only[Ju,mg,VR,aA];exact⟨_,rfl,u,_,rfl,g1,u2,nk,rfl,g3,g4⟩
theorem H9{rs:List ResultVar}{fr:AF}{j:Option Code}(h:finish P rs fr j s= .ok x s1):
 (j=none\/j=some .ret)/\∃u s4 vs,oq fr.defers s= .ok u s4/\qc P fr.tmps rs s4= .ok vs s1/\x=Ju vs:=by
 unfold finish at h;obtain⟨u,s3,h5,h6⟩:=M.aR h;have Qm:s3=s/\(j=none\/j=some .ret):=by
  cases j with
  |none=>exact⟨(bK (show M.pure () s= .ok u s3 from h5)).2,.inl rfl⟩
  |some c=>cases c<;>first|exact⟨(bK (show M.pure () s= .ok u s3 from h5)).2,.inr rfl⟩|cases h5
 obtain⟨hs,hj⟩:=Qm;clear h5 h;subst hs;obtain⟨u2,s4,h7,h8⟩:=M.aR h6;obtain⟨vs,s5,h9,gE⟩:=M.aR h8;refine⟨hj,u2,s4,vs,h7,?_⟩;cases vs with
 |nil=>obtain⟨rfl,rfl⟩:=bK (show M.pure (.tuple []) s5= .ok x s1 from gE);exact⟨h9,rfl⟩
 |cons v rs=>
  cases rs with
  |nil=>obtain⟨rfl,rfl⟩:=bK (show M.pure v s5= .ok x s1 from gE);exact⟨h9,rfl⟩
  |cons v2 rs=>obtain⟨rfl,rfl⟩:=bK (show M.pure (.tuple<|v::v2::rs) s5= .ok x s1 from gE);exact⟨h9,rfl⟩
theorem ab7(bY:P.follows .mixedOrders=true)(hc:fP P B YO)(hl:∀t a,YN<|YO t a){f:FuncId}{fn:Func}{body:Code}(cq:P.funcs[f]? =some fn)(cx:fn.body=some body)(dL:(fn.name == "runtime.NumGoroutine")=false)(dq:ir body)(fi:bD s)(r:Rel B ρ s.h w)(hg:gb ρ)(hf:dF s.nx s1.nx ρ)(h:DJ P f fn.ntmps fn.results.toList body YO args s= .ok x s1)(hv:aA ρ args vs.toList):jk P ((callFunc f vs).run P w)<|j8 B ρ s s1 w x:=by
 have bI:(callFunc f vs).run P w= .ok (.enter f vs) w:=by
  have Gn:(program).run P w= .ok P w:=rfl;have hn:fn.name≠ "runtime.NumGoroutine" :=by simpa using dL
  simp only[callFunc,Sem.run_bind,Gn,Result.andThen_ok,cq,dL,cx];simp
 rw[bI];intro cs;unfold DJ at h;obtain⟨h1,h2⟩:=cZ h;have oX:=aM.1 h1;obtain⟨y,s2,h3,h4⟩:=M.aR h2;cases y with
 |go fr=>cases h4
 |leave fr j=>
  have Lc:finish P fn.results.toList fr j s2= .ok x s1:=h4;let b:Frame:={(default:Frame) with fn:=f,kind:=.normal,roundOf:=none};let a:Act:={tmps:=vs++Array.replicate (fn.ntmps - vs.size) undef,defers:=[]};have th:Frame.enter P f vs .normal=b.atR a [.code body]:=by simp[Frame.enter,Frame.atR,cq,cx,b,a]
  have bS:Fr ρ ⟨f,ep args,max fn.ntmps args.length,[.code body],[],none⟩ b a:=⟨rfl,rfl,trivial,rfl,.cons dq .nil⟩;have aB:At B ρ s (max fn.ntmps args.length) (ep args) w a:=⟨HT hv _ oX,r,hg,oX,fi⟩;have mU:=(YN.oL P hl depth 2 ⟨f,ep args,max fn.ntmps args.length,[.code body],[],none⟩).le fi h3;have eG:=(YN.oL P hl depth 2 ⟨f,ep args,max fn.ntmps args.length,[.code body],[],none⟩).cO fi h3;obtain⟨hj,u2,s4,rs,h7,h9,hx⟩:=H9 Lc;have aiE:∀{l:List Nat} {s s1:AS} {u:Unit},oq l s= .ok u s1->s1.nx=s.nx:=by
   intro l;induction l with
   |nil=>intro s s1 u h;exact congrArg AS.nx (bK (show M.pure () s= .ok u s1 from h)).2
   |cons d l ih=>
    intro s s1 u h;obtain⟨o,s2,q1,q2⟩:=M.aR (show((bq d).bind fun o=>match o with| .defs=>(bN d none).bind fun _=>oq l|_=>fail) s= .ok u s1 from h);cases o with
    |defs=>obtain⟨u2,s3,q3,q4⟩:=M.aR q2;rw[ih q4,(kr q3).2.2.2.2,(fX q1).2.2.2]
    |_=>cases q2
  have aiF:∀{l:List ResultVar} {t:Tr AV} {vs:List AV} {s s1:AS},bD s->qc P t l s= .ok vs s1->s.nx<=s1.nx:=by intro l t vs s s1 fi h;exact(YN.qc P t l).le fi h
  have n4:=aiE h7;have mV:bD s4:=(YN.oq _).cO eG h7;have n5:=aiF mV h9;obtain⟨σ,a',w',e1,e2,e3,e4,⟨e5,Ch,aiG⟩,e6,e7,e8⟩:=MD (b:=b) (cs:=cs) bY hc hl depth 2 bS aB (hf.sub (Nat.le_refl _) aj) h3;have np:Leaves j fr.todo:=e7;obtain⟨d1,d2,w2,d3,d4,d5⟩:=Fa (P:=P) (fr:=b) (cs:=cs) eG e2.rel e3 h7;obtain⟨f1,f2,us,f3,f4⟩:=E9 (P:=P) (w:=w2) e2.tr mV d3 h9;have BI:Steps P (lone (b.atR a' fr.todo) cs w')<|lone {b.atR a' fr.todo with mode:=.returning} cs w':=by
   rcases hj with rfl|rfl
   ·have e:fr.todo=[]:=np;rw[e];exact .one<|stepR_end rfl
   ·obtain⟨k,e⟩:=np;rw[e];exact .one<|stepR_ret rfl
  have tM:=d5 {b.atR a' fr.todo with mode:=.returning} cs iH rfl;have kv:(results fn a'.tmps).run P w2= .ok (mg us) w2:=by
   unfold results;rw[Array.mapM_eq_mapM_toList];simp only[Sem.run_bind,map_eq_pure_bind,Sem.run_pure];refine Eq.trans (congrArg (fun r:Result (List Value)=>(r.andThen fun a w'=>Result.ok a.toArray w').andThen fun a w'=>Result.ok (if h:a.size=1 then a[0] else Value.tuple a) w') f3) ?_;have:∀l:List Value,(Result.ok (if h:l.toArray.size=1 then l.toArray[0] else Value.tuple l.toArray) w2:Result Value)= .ok (mg l) w2:=by
    intro l
    match l with
    |[]=>rfl
    |[v]=>rfl
    |v::v2::l=>simp[mg]
   exact this us
  refine⟨.returned<|mg us,w2,{b.atR a' fr.todo with mode:=.returning,defers:=[]},⟨_,rfl,?_⟩,?_,rfl,?_⟩
  ·exact⟨σ,by rw[show s1.nx=s2.nx by rw[f2,d1]];exact e1,by rw[hx];exact Io f4,by rw[f1];exact d3,e4.trans d4⟩
  ·rw[th];exact Steps.trans e8<|Steps.trans BI tM
  ·exact⟨rfl,rfl,rfl,fn,cq,kv⟩
structure bE (P:Program):Prop where
 mixed:P.follows .mixedOrders=true
 code:∀(f:FuncId) (fn:Func) (body:Code),P.funcs[f]? =some fn->fn.body=some body->ir body
def Vy(P:Program)(B:aL)(iX:FuncId->Nat):Prop:=∀(n:Nat) (f:FuncId),(iX f=1\/iX f=2\/iX f=3)->fP P B (vL P iX n)->∀(args:List AV) (x:AV) (s s1:AS) (ρ:aw) (w:World) (vs:Array Value),bD s->Rel B ρ s.h w->gb ρ->dF s.nx s1.nx ρ->(Ez P iX f).val (vL P iX n) args s= .ok x s1->aA ρ args vs.toList->jk P ((callFunc f vs).run P w) (j8 B ρ s s1 w x)
theorem TF(hP:bE P){iX:FuncId->Nat}(hw:Vy P B iX):∀(n:Nat),fP P B (vL P iX n)
 |0=>⟨(fun f args x s s1 ρ w vs _ _ _ _ h _=>by cases h),(fun l b N args x s s1 ρ w vs _ _ _ _ h _ _=>by cases h),(fun n o k x s s1 ρ w _ _ h=>by cases h)⟩
 |n+1=>by
  have ih:=TF hP hw n;refine⟨fun f args x s s1 ρ w vs fi r hg hf h hv=>?_,fun l b N args x s s1 ρ w vs fi r hg hf h hv hl=>aaY hP.mixed ih (H7 P iX n) fi r hg hf h hv hl,fun n o k x s s1 ρ w _ _ h=>by cases h⟩;have h':(Ez P iX f).val (vL P iX n) args s= .ok x s1:=h;by_cases q:iX f=1\/iX f=2\/iX f=3
  ·exact hw n f q ih args x s s1 ρ w vs fi r hg hf h' hv
  ·unfold Ez at h';split at h'
   ·rename_i e;exact absurd (.inr<|.inl e) q
   ·rename_i e;exact absurd (.inr<|.inr e) q
   ·cases e1:P.funcs[f]? with
    |none=>rw[e1] at h';cases h'
    |some fn=>
     rw[e1] at h';cases e2:fn.body with
     |none=>simp only[e2] at h';cases h'
     |some body=>
      simp only[e2] at h';cases e3:(fn.name == "runtime.NumGoroutine") with
      |true=>simp only[e3] at h';cases h'
      |false=>
       simp only[e3] at h';cases e4:Nat.beq (iX f) 1 with
       |true=>exact absurd (.inl<|dT.1 e4) q
       |false=>simp only[e4] at h';exact ab7 hP.mixed ih (H7 P iX n) e1 e2 e3 (hP.code f fn body e1 e2) fi r hg hf h' hv
end
end Go.Rn
namespace Go.Rn
open Go.RowKit
end Go.Rn
namespace Go.Rn
open Go.RowKit
def TG(W:World):aw:=fun k=>if k<fM then some (k,match W.heap[k]? with|some (.cells c _ _)=>c.size|_=>0) else none
end Go.Rn
namespace Go.Rn
open Go.RowKit
theorem SW{ρ:aw}{e:MapEntry}:∀{left:List<|AV×AV} {l:List MapEntry},dV ρ left l->e∈l->
 ∃x r l',(x,r)∈rC left/\VR ρ x.1 e.key/\VR ρ x.2 e.val/\dV ρ r l'/\l.Perm (e::l')
 |[],l,h,he=>by simp only[dV] at h;subst h;cases he
 |y::ys,l,h,he=>by
  simp only[dV] at h;obtain⟨e0,es,rfl,h1,h2,h3⟩:=h;rcases List.mem_cons.1 he with rfl|he
  ·exact⟨y,ys,es,by simp[rC],h1,h2,h3,List.Perm.refl _⟩
  ·obtain⟨x,r,l',k1,k2,k3,k4,k5⟩:=SW h3 he;refine⟨x,y::r,e0::l',?_,k2,k3,?_,?_⟩
   ·simp only[rC,List.mem_cons,List.mem_map];exact .inr ⟨(x,r),k1,rfl⟩
   ·simp only[dV];exact⟨e0,l',rfl,h1,h2,k4⟩
   ·exact(List.Perm.cons e0 k5).trans<|List.Perm.swap e e0 l'
theorem dV.adw{ρ:aw}{left:List<|AV×AV}(h:dV ρ left []):left=[]:=by
 cases left with
 |nil=>rfl
 |cons x xs=>simp only[dV] at h;obtain⟨e,es,h,_⟩:=h;cases h
section
variable {P:Program} {B:aL} {ρ:aw} {w w':World} {h:Tr ab} {n m:Nat} {es left iR:List<|AV×AV} {ex:Bool} {cur iU:Option<|AV×AV} {b N:Nat}
theorem Sg{w1:World}{o:Obj}(hw:w1=w\/w1=w.drew):xk b w<|ChangeMaps.setBlock w1 b o:=by
 have h1:(ChangeMaps.setBlock w1 b o).heap=w.heap.setIfInBounds b o:=by rcases hw with rfl|rfl<;>rfl
 refine⟨?_,?_,?_,by rw[h1];simp,fun k hk=>?_⟩
 ·rcases hw with rfl|rfl<;>rfl
 ·rcases hw with rfl|rfl<;>rfl
 ·rcases hw with rfl|rfl<;>rfl
 ·rw[h1,Array.getElem?_setIfInBounds_ne aj]
theorem oH.next(ty:TypeId)(u:oH ρ w n m es ex left cur):∃b N,ρ n=some (b,N)/\
 ((left=[]/\(Instr.next (.pointer<|some ⟨b,0,none⟩) false ty).run P w= .ok (.tuple #[.bool false]) w)\/
 ∃x r v1 v2 w',(x,r)∈rC left/\VR ρ x.1 v1/\VR ρ x.2 v2/\(Instr.next (.pointer<|some ⟨b,0,none⟩) false ty).run P w= .ok (.tuple #[.bool true,v1,v2]) w'/\xk b w w'/\(∃bm M c sn,ρ m=some (bm,M)/\w'.heap[b]? =some (.mapIter (some bm) c sn c))/\oH ρ w' n m es ex r (some x)):=by
 obtain⟨b,N,bm,M,l,ay,seen,h1,h2,h3,h4,h5,h6,h7,h8,h9⟩:=u;refine⟨b,N,h1,?_⟩;have yl:(leftOf l seen).toList=l.toList.filter fun e=> !seen.contains e.born:=by simp[leftOf]
 obtain⟨l',hp,hq⟩:=h8;rcases run_next_at (P:=P) w ty b bm ay ay seen l ay h3 h4 h5.2 (Nat.le_refl _) with⟨k1,k2⟩|⟨e,he,w1,Qz,k2⟩
 ·refine .inl ⟨?_,k2⟩;have:(leftOf l seen).toList=[]:=by apply List.eq_nil_of_length_eq_zero;simpa using k1
  rw[yl] at this;rw[this] at hp;have lZ:=hp.symm.eq_nil;subst lZ;exact hq.adw
 ·refine .inr ?_;rw[yl] at he;have Hh:e∈l':=hp.mem_iff.1 he;obtain⟨x,r,Lf,p1,p2,p3,p4,p5⟩:=SW hq Hh;have ct:bm≠b:=by intro q;subst q;rw[h3] at h4;cases h4
  have iI:(ChangeMaps.setBlock w1 b<|.mapIter (some bm) ay (seen.push e.born) ay).heap[b]? =some (.mapIter (some bm) ay (seen.push e.born) ay):=by
   have bB:b<w.heap.size:=gS h3;have:(ChangeMaps.setBlock w1 b<|.mapIter (some bm) ay (seen.push e.born) ay).heap=w.heap.setIfInBounds b (.mapIter (some bm) ay (seen.push e.born) ay):=by rcases Qz with rfl|rfl<;>rfl
   rw[this,Array.getElem?_setIfInBounds_self_of_lt bB]
  refine⟨x,r,e.key,e.val,_,p1,p2,p3,k2,Sg Qz,⟨bm,M,ay,seen.push e.born,h2,iI⟩,?_⟩;have qD:e∈l.toList:=(List.mem_filter.1 he).1;have EE:((e::Lf).map (·.born)).Nodup:=by have a:((l.toList.filter fun e=> !seen.contains e.born).map (·.born)).Nodup:=(List.filter_sublist.map _).nodup h5.1;exact((hp.trans p5).map _).nodup_iff.1 a
  rw[List.map_cons,List.nodup_cons] at EE;refine⟨b,N,bm,M,l,ay,seen.push e.born,h1,h2,iI,((Sg Qz).block bm ct).trans h4,h5,h6,h7,⟨Lf,?_,p4⟩,⟨e,qD,by simp,p2,p3⟩⟩;have e1:(l.toList.filter fun x=> !(seen.push e.born).contains x.born)=(l.toList.filter fun x=> !seen.contains x.born).filter fun x=> !(x.born == e.born):=by rw[List.filter_filter];congr 1;funext x;simp only[Array.contains_push];rw[Bool.not_or,Bool.and_comm]
  have e2:(e::Lf).filter (fun x=> !(x.born == e.born))=Lf:=by
   rw[List.filter_cons];simp only[beq_self_eq_true,Bool.not_true,Bool.false_eq_true,if_false];refine List.filter_eq_self.2 fun x hx=>?_;have:¬x.born=e.born:=by intro q;exact EE.1 (by rw[←q];exact List.mem_map_of_mem hx)
   simp[this]
  rw[e1];have:=(hp.trans p5).filter fun x=> !(x.born == e.born);rw[e2] at this;exact this
theorem Rel.afg(r:Rel B ρ h w)(ht:n<top)(hg:h.get n=some (.iter m es ex left cur))(hr:ρ n=some (b,N))(hw:xk b w w')(hb:∃bm M c sn,ρ m=some (bm,M)/\w'.heap[b]? =some (.mapIter (some bm) c sn c))(u:oH ρ w' n m es ex iR iU):Rel B ρ (h.put n<|some<|.iter m es ex iR iU) w':=by
 obtain⟨_,_,_,hB⟩:=r.block ht hg hr;obtain⟨pS,fC,_⟩:=r.iter n m es ex left cur ht hg;have sd:m≠n:=by intro e;subst e;rw[hg] at fC;cases fC
 have g:∀k,k<top->(h.put n<|some<|.iter m es ex iR iU).get k=if k=n then some (.iter m es ex iR iU) else h.get k:=fun k hk=>Tr.du _ _ _ _ ht hk
 have live:∀j,j<top->∀x,(if j=n then some (ab.iter m es ex iR iU) else h.get j)=some x->∃y,h.get j=some y/\(x.dm=false->y.dm=false):=by
  intro j _ x hx;by_cases e:j=n
  ·subst e;exact⟨_,hg,fun _=>rfl⟩
  ·rw[if_neg e] at hx;exact⟨x,hx,id⟩
 refine⟨?_,?_,?_,by rw[hw.size];exact r.size,?_,r.fz.of (aw.le_refl _) (fun b1 _ hn=>hw.block b1 fun e=>hn n _ N ht hg rfl (by rw[e];exact hr)) (fun b1 _ hn=>hn.sub fun k q hk hq gX=>by
  rw[g k hk] at hq;obtain⟨y,e1,e2⟩:=live k hk q hq;exact⟨y,e1,e2 gX⟩),r.tk.of (aw.le_refl _) (fun k q hk hq xS=>by
  rw[g k hk] at hq;by_cases e:k=n
  ·rw[if_pos e] at hq;cases hq;cases xS
  ·rw[if_neg e] at hq;exact hq) (by rw[hw.size];exact Nat.le_refl _) (fun b1 _ hn=>hw.block b1 fun e=>hn n _ N ht hg rfl (by rw[e];exact hr)) (fun b1 _ hn=>hn.sub fun k q hk hq gX=>by
  rw[g k hk] at hq;obtain⟨y,e1,e2⟩:=live k hk q hq;exact⟨y,e1,e2 gX⟩) fun _ _ _ _ _ e=>e⟩
 ·intro k q hk hq;rw[g k hk] at hq;by_cases e:k=n
  ·subst e;rw[if_pos rfl] at hq;cases hq;obtain⟨bm,M,c,sn,q1,q2⟩:=hb;exact⟨b,N,_,hr,q2,⟨bm,M,c,sn,q1,rfl⟩,fun _=>hB rfl⟩
  ·rw[if_neg e] at hq;obtain⟨b1,N1,o1,h1,h2,h3,h4⟩:=r.is k q hk hq;refine⟨b1,N1,o1,h1,(hw.block b1 fun e2=>?_).trans h2,h3,h4⟩;subst e2;exact e<|r.one k n q _ b1 N1 N hk ht hq hg (.inr rfl) h1 hr
 ·intro k j q q' b1 N1 M1 hk hj hq dU cV h1 h2;rw[g k hk] at hq;rw[g j hj] at dU;obtain⟨y,hy,v7⟩:=live k hk q hq;obtain⟨z,hz,Hf⟩:=live j hj q' dU;exact r.one k j y z b1 N1 M1 hk hj hy hz (cV.imp v7 Hf) h1 h2
 ·intro i m' hI jr l' c' hi hq;rw[g i hi] at hq;by_cases e:i=n
  ·subst e;rw[if_pos rfl] at hq;cases hq;exact⟨pS,by rw[g m pS,if_neg sd];exact fC,u⟩
  ·rw[if_neg e] at hq;obtain⟨eg,hl,u'⟩:=r.iter i m' hI jr l' c' hi hq;have Ky:m'≠n:=by intro e2;subst e2;rw[hg] at hl;cases hl
   refine⟨eg,by rw[g m' eg,if_neg Ky];exact hl,u'.mN hw.block (fun M e2=>e ?_) fun M e2=>Ky ?_⟩
   ·exact r.one i n _ _ b M N hi ht hq hg (.inr rfl) e2 hr
   ·exact r.one m' n _ _ b M N eg ht hl hg (.inr rfl) e2 hr
 ·intro i j m' zZ z6 zm zF K4 K5 J4 Kr hi hj q1 q2;rw[g i hi] at q1;rw[g j hj] at q2;have XL:∀k,k<top->∀zZ z6 zm zF,(if k=n then some (ab.iter m es ex iR iU) else h.get k)=some (.iter m' zZ z6 zm zF)->∃K4 K5 J4 Kr,h.get k=some (.iter m' K4 K5 J4 Kr):=by
   intro k _ zZ z6 zm zF q;by_cases e:k=n
   ·subst e;rw[if_pos rfl] at q;cases q;exact⟨_,_,_,_,hg⟩
   ·rw[if_neg e] at q;exact⟨_,_,_,_,q⟩
  obtain⟨_,_,_,_,a1⟩:=XL i hi _ _ _ _ q1;obtain⟨_,_,_,_,a2⟩:=XL j hj _ _ _ _ q2;exact r.lone i j m' _ _ _ _ _ _ _ _ hi hj a1 a2
theorem Rel.ab8{o:ab}{o':Obj}(r:Rel B ρ h w)(ht:m<top)(hg:h.get m=some .ku)(hr:ρ m=some (b,N))(hb:w.heap[b]? =some o')(hO:OR ρ N o o')(B8:o.own=true)(lP:∀i es ex left cur,i<top->h.get i≠some (.iter m es ex left cur)):Rel B ρ (h.put m<|some o) w:=by
 obtain⟨ho,GF⟩:=ab.uK B8;obtain⟨_,_,_,hB⟩:=r.block ht hg hr;have g:∀k,k<top->(h.put m<|some o).get k=if k=m then some o else h.get k:=fun k hk=>Tr.du _ _ _ _ ht hk
 have live:∀j,j<top->∀x,(if j=m then some o else h.get j)=some x->∃y,h.get j=some y/\(x.dm=false->y.dm=false):=by
  intro j _ x hx;by_cases e:j=m
  ·subst e;exact⟨_,hg,fun _=>rfl⟩
  ·rw[if_neg e] at hx;exact⟨x,hx,id⟩
 refine⟨?_,?_,?_,r.size,?_,r.fz.of (aw.le_refl _) (fun _ _ _=>rfl) (fun b1 _ hn=>hn.sub fun k q hk hq gX=>by
  rw[g k hk] at hq;obtain⟨y,e1,e2⟩:=live k hk q hq;exact⟨y,e1,e2 gX⟩),r.tk.of (aw.le_refl _) (fun k q hk hq xS=>by
  rw[g k hk] at hq;by_cases e:k=m
  ·rw[if_pos e] at hq;cases hq;rw[GF] at xS;cases xS
  ·rw[if_neg e] at hq;exact hq) (Nat.le_refl _) (fun _ _ _=>rfl) (fun b1 _ hn=>hn.sub fun k q hk hq gX=>by
  rw[g k hk] at hq;obtain⟨y,e1,e2⟩:=live k hk q hq;exact⟨y,e1,e2 gX⟩) fun _ _ _ _ _ e=>e⟩
 ·intro k q hk hq;rw[g k hk] at hq;by_cases e:k=m
  ·subst e;rw[if_pos rfl] at hq;cases hq;exact⟨b,N,_,hr,hb,hO,fun _=>hB rfl⟩
  ·rw[if_neg e] at hq;exact r.is k q hk hq
 ·intro k j q q' b1 N1 M1 hk hj hq dU cV h1 h2;rw[g k hk] at hq;rw[g j hj] at dU;obtain⟨y,hy,v7⟩:=live k hk q hq;obtain⟨z,hz,Hf⟩:=live j hj q' dU;exact r.one k j y z b1 N1 M1 hk hj hy hz (cV.imp v7 Hf) h1 h2
 ·intro i m' hI jr l' c' hi hq;rw[g i hi] at hq;by_cases e:i=m
  ·subst e;rw[if_pos rfl] at hq;cases hq;simp[ab.plain] at ho
  ·rw[if_neg e] at hq;obtain⟨eg,hl,u'⟩:=r.iter i m' hI jr l' c' hi hq;have Ky:m'≠m:=by intro e2;subst e2;exact lP i _ _ _ _ hi hq
   exact⟨eg,by rw[g m' eg,if_neg Ky];exact hl,u'⟩
 ·intro i j m' zZ z6 zm zF K4 K5 J4 Kr hi hj q1 q2;rw[g i hi] at q1;rw[g j hj] at q2;by_cases e:i=m
  ·rw[if_pos e] at q1;cases q1;simp[ab.plain] at ho
  ·rw[if_neg e] at q1;by_cases e2:j=m
   ·rw[if_pos e2] at q2;cases q2;simp[ab.plain] at ho
   ·rw[if_neg e2] at q2;exact r.lone i j m' _ _ _ _ _ _ _ _ hi hj q1 q2
theorem Rel.aiH(r:Rel B ρ h w)(ht:n<top)(hg:h.get n=some (.iter m es ex left cur)):Rel B ρ ((h.put n none).put m<|some<|mapOf ex es) w:=by
 obtain⟨pS,fC,b,N,bm,M,l,ay,seen,h1,h2,h3,h4,h5,h6,h7,h8,h9⟩:=r.iter n m es ex left cur ht hg;have sd:m≠n:=by intro e;subst e;rw[hg] at fC;cases fC
 have g:∀k,k<top->(h.put n none).get k=if k=n then none else h.get k:=fun k hk=>Tr.du _ _ _ _ ht hk
 refine(r.drop ht (by rw[hg];simp)).ab8 pS (by rw[g m pS,if_neg sd];exact fC) h2 h4 ?_ (by cases ex<;>rfl) ?_
 ·cases ex with
  |true=>obtain⟨q1,q2⟩:=h6 rfl;subst q1;exact⟨l,rfl,rfl,q2⟩
  |false=>obtain⟨q1,q2⟩:=h7 rfl;exact⟨l,ay,rfl,q1,h5,q2⟩
 ·intro i hI jr iR iU hi hq;rw[g i hi] at hq;by_cases e:i=n
  ·rw[if_pos e] at hq;cases hq
  ·rw[if_neg e] at hq;exact e<|r.lone i n m _ _ _ _ _ _ _ _ hi ht hq hg
end
end Go.Rn
namespace Go.Rn
open Go.RowKit
variable {rest:List Oper} {ops:Array Oper} {o:Oper} {k:List Item} {it:Operand}
section
variable {P:Program} {B:aL} {ρ:aw} {w w1:World} {s s1 s2:AS} {YO:aK} {b:Frame} {a:Act} {cs:List Frame}
theorem put_defers(a:Act)(dst:Option Tmp)(v:Value):(a.put dst v).defers=a.defers:=by cases dst<;>rfl
theorem RZ{fr:AF}{id:Nat}{t1 t2:Tr AV}{v:Value}(hc:fP P B YO)(hl:∀t a,YN<|YO t a)(bS:Fr ρ fr b a)(rD:fr.todo= .code (.region id ops false)::k)(nH:ops.toList=o::rest)(Lg:o.guard=none)(hd:∀c,o.op≠ .defer c)(xR:(execOp a.eval o).run P w= .ok (.value v) w1)(BJ:cL B w w1)(aB:At B ρ s1 fr.nt t1 w1<|a.put o.dst v)(cQ:s1.nx=s.nx)(hf:dF s1.nx s2.nx ρ)(h:jj P YO fr.nt ops rest t1 s1= .ok t2 s2):
 nG P B ρ s s2 w fr b cs (lone (b.atR a fr.todo) cs w) (.go {fr with tmps:=t2,todo:=k}):=by
 have hw:Region.wanted o (yielded ops a.tmps)=true:=by unfold Region.wanted;rw[Lg]
 have ho:ops[0]? =some o:=by rw[←Array.getElem?_toList,nH];rfl
 have lf:ops.size=rest.length+1:=by rw[←Array.length_toList,nH];rfl
 have hk:jB k:=by have:=bS.ok;rw[rD] at this;exact this.tail
 obtain⟨v',w',⟨rfl,rfl⟩,st⟩:=Sc (R:=fun v' w'=>v'=v/\w'=w1) ho hw hd (by unfold jk;rw[xR];exact⟨rfl,rfl⟩) b k cs<|List.range' 1 rest.length;obtain⟨σ,a',w2,e1,e2,e3,e4,e5⟩:=Nm hc hl b k cs rest.length 1 rest rfl (by rw[nH];rfl) aB hf h;refine⟨σ,a',w2,by rw[←cQ];exact e1,e2,?_,BJ.trans e4,⟨rfl,rfl,rfl⟩,hk,trivial,?_⟩
 ·rw[e3,put_defers];exact bS.defs.mono e1.le
 ·rw[rD];refine .head stepR_region ?_;rw[List.range_eq_range',lf,List.range'_succ];exact Steps.trans st e5
theorem ZI{fr:AF}{n:Nat}{ob:ab}(h:rj fr it s= .ok (n,ob) s1):aI fr.tmps it=some (.ptr<|some (n,0))/\bq n s= .ok ob s1:=by
 unfold rj at h;obtain⟨x,s2,h1,h2⟩:=M.aR h;obtain⟨h3,rfl⟩:=hU h1;split at h2
 ·obtain⟨y,s3,h4,h5⟩:=M.aR h2;obtain⟨h6,rfl⟩:=bK h5;cases h6;exact⟨h3,h4⟩
 ·cases h2
theorem Zl{fr:AF}(h:yJ fr=some (it,o,ops,rest,k)):
 ∃id,fr.todo= .code (.region id ops false)::k/\ops.toList=o::rest/\o.guard=none/\o.op= .next it false:=by
 unfold yJ at h;split at h
 ·rename_i id amT k' rD;split at h
  ·rename_i o' amJ nH;split at h
   ·rename_i it' hg ho;cases h;exact⟨id,rD,nH,hg,ho⟩
   ·cases h
  ·cases h
 ·cases h
end
end Go.Rn
namespace Go.Rn
open Go.RowKit
theorem sameKey_eq{a b:AV}(h:sameKey a b=some true):a=b:=by
 unfold sameKey at h;split at h<;>first|(cases h;done)|skip
 ·rename_i k x k' y;cases hk:decide (k=k') with
  |false=>rw[hk] at h;cases h
  |true=>
   rw[hk] at h;injection h with h
   have e1:=of_decide_eq_true hk;have e2:x=y:=by simpa using h
   rw[e1,e2]
 ·rename_i x y;injection h with h
  obtain⟨x⟩:=x;obtain⟨y⟩:=y;have e:x=y:=by have h':(x == y)=true:=h;exact eq_of_beq h'
  rw[e]
 ·rename_i x y;injection h with h
  have e:x=y:=by simpa using h
  rw[e]
section
variable {P:Program} {B:aL} {ρ σ:aw} {w w2:World} {s s1 s2:AS}
end
end Go.Rn
namespace Go.Rn
open Go.RowKit
section
variable {P:Program} {B:aL} {ρ:aw} {w:World} {s s1:AS} {YO:aK}
end
end Go.Rn
namespace Go.Rn
open Go.RowKit
noncomputable section
def dZ(P:Program)(YO:aK)(k:Nat):AF->M bt:= @Nat.rec (fun _=>AF->M bt) (fun fr=>M.pure<|.go fr) (fun _ ih fr=>(jf P YO fr).bind fun x=> @bt.rec (fun _=>M bt) ih (fun fr j=>M.pure<|.leave fr j) x) k
def sS:List Nat->Code->Code
 |[],c=>c
 |0::l,.seq a _=>sS l a
 |_::l,.seq _ b=>sS l b
 |0::l,.cond _ a _=>sS l a
 |_::l,.cond _ _ b=>sS l b
 |_::l,.block _ b=>sS l b
 |_::l,.loop b=>sS l b
 |_::l,.scope b=>sS l b
 |0::l,.rangeFunc _ _ a _=>sS l a
 |_::l,.rangeFunc _ _ _ b=>sS l b
 |_::_,c=>c
def getAll(h:Tr ab):List Nat->List (Option ab)
 |[]=>[]
 |n::ns=>h.get n::getAll h ns
def TH:List (Option ab)->Bool
 |[]=>true
 |none::l=>TH l
 |some o::l=>match o.plain with
  |true=>TH l
  |false=>false
def Oy(m:Nat):List Nat->Bool
 |[]=>true
 |n::l=>match Nat.blt n m with
  |true=>Oy m l
  |false=>false
end
theorem Mh{m:Nat}:∀{l:List Nat},Oy m l=true->∀n∈l,n<m
 |[],_,n,h=>by cases h
 |a::l,hp,n,h=>by
  unfold Oy at hp;split at hp
  ·rename_i e;rcases List.mem_cons.1 h with rfl|h
   ·rw[←blt_eq];exact e
   ·exact Mh hp n h
  ·cases hp
section
variable {P:Program} {B:aL} {ρ:aw} {w:World} {s s1:AS} {YO:aK} {b:Frame} {a:Act} {cs:List Frame}
theorem YN.dZ(P:Program){YO:aK}(bI:∀t a,YN<|YO t a):∀(k:Nat) (fr:AF),YN (dZ P YO k fr)
 |0,fr=>YN.pure _
 |k+1,fr=>by
  refine YN.bind (YN.jf P bI fr) fun x=>?_;cases x with
  |go fr=>exact YN.dZ P bI k fr
  |leave fr j=>exact YN.pure _
theorem IE(bY:P.follows .mixedOrders=true)(hc:fP P B YO)(hl:∀t a,YN<|YO t a):∀(k:Nat) {ρ:aw} {w:World} {s s1:AS} {a:Act} {af:AF} {x:bt},Fr ρ af b a->At B ρ s af.nt af.tmps w a->dF s.nx s1.nx ρ->
 dZ P YO k af s= .ok x s1->nG P B ρ s s1 w af b cs (lone (b.atR a af.todo) cs w) x
 |0,ρ,w,s,s1,a,af,x,bS,aB,hf,h=>by obtain⟨rfl,rfl⟩:=bK (show M.pure (.go af) s= .ok x s1 from h);exact CN bS aB rfl rfl ⟨rfl,rfl,rfl⟩ bS.ok trivial<|Steps.refl _ _
 |k+1,ρ,w,s,s1,a,af,x,bS,aB,hf,h=>by
  obtain⟨y,s2,h1,h2⟩:=M.aR (show((jf P YO af).bind fun x=> @bt.rec (fun _=>M bt) (dZ P YO k) (fun fr j=>M.pure<|.leave fr j) x) s= .ok x s1 from h);have mU:=(YN.jf P hl af).le aB.cO h1;have eG:=(YN.jf P hl af).cO aB.cO h1;cases y with
  |go fr=>have se:dZ P YO k fr s2= .ok x s1:=h2;have pT:=(YN.dZ P hl k fr).le eG se;have w1:=MC (b:=b) (cs:=cs) bY hc hl bS aB (hf.sub (Nat.le_refl _) pT) h1;exact w1.Pc bS mU pT fun σ a' w' e1 GJ GK=>IE bY hc hl k GJ GK (hf.next mU e1) se
  |leave fr j=>obtain⟨rfl,rfl⟩:=bK (show M.pure (.leave fr j) s2= .ok x s1 from h2);exact MC bY hc hl bS aB hf h1
theorem adx{h:Tr ab}{nx:Nat}(hb:Nat.ble nx top=true):bD ⟨h,nx,0,[],[]⟩:=⟨Nat.zero_le _,aM.1 hb⟩
end
end Go.Rn
namespace Go.Rn
open Go.RowKit
variable {J:Nat} {v:Value} {b a:AV}
structure Start (J:Nat) (h0:Tr ab) (ρ:aw) (w:World):Prop where
 g:gb ρ
 free:∀k,J<=k->ρ k=none
 is:∀n o,n<top->h0.get n=some o->o.mL=true/\∃b N o',ρ n=some (b,N)/\w.heap[b]? =some o'/\OR ρ N o o'
theorem Start.rel{h0:Tr ab}{ρ:aw}{w:World}(S:Start J h0 ρ w)(ht:J<=top):Rel (ae5 w) ρ h0 w:=by
 refine⟨fun n o hn h=>?_,fun n m o p b N M hn hm h1 h2 cV _ _=>?_,fun n m es ex left cur hn h=>?_,fun _ hk=>hk,fun i j m es ex left cur hI jr iR iU hi _ h1 _=>?_,fun n b sh e=>absurd (S.free _<|Nat.le_trans ht<|fY n b sh) e,uj.no (fun n k v hn hg=>by have:=(S.is n _ hn hg).1;cases this) ⟨Nat.le_refl _,fun n o hn hg _=>by obtain⟨_,b,N,o',h1,h2,_⟩:=S.is n o hn hg;exact⟨b,N,h1,gS h2⟩⟩⟩
 ·obtain⟨hr,b,N,o',h1,h2,h3⟩:=S.is n o hn h;have hr:=ab.jY hr;exact⟨b,N,o',h1,h2,h3,fun q=>by rw[hr] at q;cases q⟩
 ·have e1:=ab.jY (S.is n o hn h1).1;have e2:=ab.jY (S.is m p hm h2).1;rcases cV with q|q
  ·rw[e1] at q;cases q
  ·rw[e2] at q;cases q
 ·have:=(S.is n _ hn h).1;cases this
 ·have:=(S.is i _ hi h1).1;cases this
section
variable {P:Program} {B:aL} {ρ:aw} {w:World} {s s1:AS} {YO:aK}
end
noncomputable section
def D9(J:Nat):AV->AV->Bool
 | .nilFunc,.nilFunc=>true
 | .func (.func f) [] [],.func (.func g) [] []=>Nat.beq f g
 | .slice none 0 (.known 0),.slice none 0 (.known 0)=>true
 | .U a b c,.U d e f=>and (Nat.beq a d)<|and (Nat.beq b e)<|and (Nat.beq c f)<|and (Nat.blt d J)<|Nat.blt d top
 |x,y=>match sameKey x y with
  |some true=>true
  |_=>false
def FO(J:Nat)(t u:Tr AV):Nat->Bool
 |0=>true
 |i+1=>match t.get i,u.get i with
  |some a,some b=>and (D9 J a b)<|FO J t u i
  |_,_=>false
def oz(J:Nat):ab->ab->Bool
 | .ro m t,.ro n u=>and (Nat.beq m n)<|FO J t u n
 | .tF m t,.tF n u=>and (Nat.beq m n)<|FO J t u n
 |_,_=>false
def fG(J:Nat)(h0:Tr ab):List Nat->M Unit
 |[]=>M.pure ()
 |n::ns=>(bq n).bind fun o=>aC (h0.get n) fun p=>aH (oz J o p) <| fG J h0 ns
end
theorem YN.fG(J:Nat)(h0:Tr ab):∀ns,YN (fG J h0 ns)
 |[]=>YN.pure _
 |n::ns=>YN.bind (YN.bq n) fun _=>YN.aC fun _ _=>YN.aH fun _=>YN.fG J h0 ns
theorem TI{ρ:aw}(h:D9 J a b=true)(hv:VR ρ a v):VR (fun k=>if k<J then ρ k else none) b v:=by
 unfold D9 at h;split at h
 ·simp only[VR] at hv ⊢;exact hv
 ·rename_i f g;have:f=g:=dT.1 h;subst this;simp only[VR,aA] at hv ⊢;exact hv
 ·simp only[VR] at hv ⊢;exact hv
 ·obtain⟨q1,q2⟩:=and_true.1 h;obtain⟨q3,q4⟩:=and_true.1 q2;obtain⟨q5,q6⟩:=and_true.1 q4;have e1:=dT.1 q1;have e2:=dT.1 q3;have e3:=dT.1 q5;subst e1;subst e2;subst e3;obtain⟨q6,q7⟩:=and_true.1 q6;have bB:=(blt_eq _ _).mp q6;have gm:=(blt_eq _ _).mp q7;simp only[VR] at hv ⊢;rcases hv with hv|⟨b,sh,c,h1,h2⟩
  ·exact .inl hv
  ·exact .inr ⟨b,sh,c,.inl ⟨by omega,(if_pos bB).trans<|h1.low aj⟩,h2⟩
 ·split at h
  ·rename_i e;have:=sameKey_eq e;subst this;unfold sameKey at e;split at e<;>first|(cases e;done)|(simp only[VR] at hv ⊢;exact hv)
  ·cases h
theorem L9{J:Nat}{t u:Tr AV}:∀{n:Nat},FO J t u n=true->∀i,i<n->∃a b,t.get i=some a/\u.get i=some b/\D9 J a b=true
 |0,_,i,hi=>by omega
 |n+1,h,i,hi=>by
  unfold FO at h;split at h
  ·rename_i a b e1 e2;obtain⟨q1,q2⟩:=and_true.1 h;by_cases q:i=n
   ·subst q;exact⟨a,b,e1,e2,q1⟩
   ·exact L9 q2 i aj
  ·cases h
theorem Sh{ρ:aw}(h:D9 J a b=true)(_:VR ρ a v):b.cf=true:=by
 unfold D9 at h;split at h
 ·rfl
 ·rfl
 ·rfl
 ·rfl
 ·split at h
  ·rename_i e;have:=sameKey_eq e;subst this;unfold sameKey at e;split at e<;>first|(cases e;done)|rfl
  ·cases h
theorem aab{N:Nat}{ρ:aw}{o p:ab}{o':Obj}(h:oz J o p=true)(hO:OR ρ N o o'):p.mL=true/\OR (fun k=>if k<J then ρ k else none) N p o':=by
 unfold oz at h;split at h
 ·rename_i m t n u;obtain⟨q1,q2⟩:=and_true.1 h;have e1:=dT.1 q1;subst e1;obtain⟨c,e,fr,rfl,h1,h2,row⟩:=hO;refine⟨rfl,c,e,fr,rfl,h1,h2,fun i hi=>?_⟩;obtain⟨x,v,a1,a2,a3,a4⟩:=row i hi;obtain⟨a,b,b1,b2,b3⟩:=L9 q2 i hi;rw[a1] at b1;cases b1;exact⟨b,v,b2,Sh b3 a4,a3,TI b3 a4⟩
 ·rename_i m t n u;obtain⟨q1,q2⟩:=and_true.1 h;have e1:=dT.1 q1;subst e1;obtain⟨c,e,fr,rfl,row⟩:=hO;refine⟨rfl,c,e,fr,rfl,fun i hi=>?_⟩;obtain⟨x,v,a1,a2,a3,a4⟩:=row i hi;obtain⟨a,b,b1,b2,b3⟩:=L9 q2 i hi;rw[a1] at b1;cases b1;exact⟨b,v,b2,Sh b3 a4,a3,TI b3 a4⟩
 ·cases h
theorem uG{J:Nat}{h0:Tr ab}:∀{ns:List Nat} {s s1:AS} {u:Unit},fG J h0 ns s= .ok u s1->s1.h=s.h/\s1.nx=s.nx/\∀n∈ns,n<s.nx/\∃o p,s.h.get n=some o/\h0.get n=some p/\oz J o p=true
 |[],s,s1,u,h=>by obtain⟨_,rfl⟩:=bK (show M.pure () s= .ok u s1 from h);exact⟨rfl,rfl,fun n hn=>by cases hn⟩
 |m::ns,s,s1,u,h=>by
  obtain⟨o,s2,h1,h2⟩:=M.aR (show((bq m).bind fun o=>aC (h0.get m) fun p=>aH (oz J o p) <| fG J h0 ns) s= .ok u s1 from h);obtain⟨a1,a2,a3,a4⟩:=fX h1;obtain⟨p,h3,h4⟩:=bu h2;obtain⟨h5,h6⟩:=cZ h4;obtain⟨b1,b2,b3⟩:=uG h6;refine⟨b1.trans a3,b2.trans a4,fun n hn=>?_⟩;rcases List.mem_cons.1 hn with rfl|hn
  ·exact⟨a1,o,p,a2,h3,h5⟩
  ·obtain⟨c1,q1,q2,c2,c3,c4⟩:=b3 n hn;exact⟨by rw[←a4];exact c1,q1,q2,by rw[←a3];exact c2,c3,c4⟩
end Go.Rn
