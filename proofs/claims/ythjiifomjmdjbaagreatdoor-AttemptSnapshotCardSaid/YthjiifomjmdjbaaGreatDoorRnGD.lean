import Derived.Test.YthjiifomjmdjbaaGreatDoorRnGC
import Derived.Orders
import Derived.RangeFuncIn
import Derived.RangeFuncLeaves
import GoSem.Extern.MapsClone
import Derived.Maps.RangeRun
set_option maxRecDepth 100000
set_option maxHeartbeats 8000000
set_option linter.unusedSimpArgs false
set_option linter.unusedVariables false
namespace Go.Rn
open Go.RowKit
variable {nt i:Nat} {a:Act} {ops:Array Oper} {t1:Tr AV} {dst:Option Tmp}
section
variable {P:Program} {B:aJ} {ρ:aw} {w:World} {s s1:AS} {x:AV} {Ye:aI} {t:Tr AV} {o:Oper}
theorem Si{f:AV}{args:List AV}{vf:Value}{vs:Array Value}(hc:fQ P B Ye)(hg:gd ρ)(fi:bx s)(r:Rel B ρ s.h w)(hf:dE s.nx s1.nx ρ)(x9:VR ρ f vf)(hl:ay ρ args vs.toList)(h4:mX Ye f args s= .ok x s1):jo P ((do let d ←Deferred.ofValue vf vs;invoke d.target d.args:Sem Next).run P w)<|kh B ρ s s1 w x:=by
 unfold mX at h4;split at h4
 ·rename_i g first captured
  obtain⟨_,p,q,e,hp,hq⟩:=x9.S9;have OH:ay ρ (first++args++captured) (p++vs++q).toList:=by rw[Array.toList_append,Array.toList_append];exact(hp.append hl).append hq
  have:=hc.fn g _ x s s1 ρ w _ fi r hg hf h4 OH;simp only[Deferred.ofValue,e,Sem.run_bind,Sem.run_pure,Result.andThen_ok,invoke];exact this
 ·rename_i n;have iL:=x9;simp only[VR] at iL;obtain⟨b,N,hn,e⟩:=iL;have:=hc.round n b N _ x s s1 ρ w vs fi r hg hf h4 hl hn;simp only[Deferred.ofValue,e,Sem.run_bind,Sem.run_pure,Result.andThen_ok,invoke];simpa using this
 ·cases h4
theorem RE{R:Value->World->Prop}(ho:ops[i]? =some o)(hw:Region.wanted o (yielded ops a.tmps)=true)(hd:∀c,o.op≠ .defer c)(h:jo P ((execOp a.eval o).run P w) R)(b:Frame)(k:List Item)(cs:List Frame)(rest:List Nat):
 ∃v w',R v w'/\Steps P (lone (b.atR a<|.inRegion ops (i::rest)::k) cs w) (lone (b.atR (a.put o.dst v)<|.inRegion ops rest::k) cs w'):=by
 have hg:=stepGR_op (P:=P) (b:=b) (k:=k) (cs:=cs) (w:=w) (rest:=rest) ho hw;rw[Oper.semAt_eq _ _ _ hd] at hg;have pq:∀v,(b.atR a<|.inRegion ops (i::rest)::k).finish v=b.atR (a.put o.dst v) (.inRegion ops rest::k):=by intro v;rw[Frame.finish_atR,ho];rfl
 generalize hr:(execOp a.eval o).run P w=res at h;unfold jo at h;split at h
 ·rename_i v w';refine⟨v,w',h,.one<|step_lone_go ?_⟩;rw[hg, ←pq];simp[stepG.apply,hr]
 ·rename_i w';refine⟨undef,w',h,.one<|step_lone_go ?_⟩;rw[hg, ←pq];simp[stepG.apply,hr]
 ·rename_i f args w';obtain⟨e,ni,fr,⟨v,rfl,hR⟩,A8,cm,NW⟩:=h<|b.atR a (.inRegion ops (i::rest)::k)::cs;have A9:step P (lone (b.atR a<|.inRegion ops (i::rest)::k) cs w)= .next (lone (Frame.enter P f args .normal) (b.atR a (.inRegion ops (i::rest)::k)::cs) w'):=step_lone_go (by rw[hg];simp[stepG.apply,hr,Frame.atR])
  refine⟨v,ni,hR,.head A9<|Steps.trans A8<|.one ?_⟩;rw[←pq];exact step_leave_returned NW
 ·rename_i l f tmps assign body w';obtain⟨v,ni,hR,A8⟩:=h (b.atR a<|.inRegion ops (i::rest)::k) cs;have A9:step P (lone (b.atR a<|.inRegion ops (i::rest)::k) cs w)= .next (lone (Frame.round l f tmps assign body .normal) (b.atR a (.inRegion ops (i::rest)::k)::cs) w'):=step_lone_go (by rw[hg];simp[stepG.apply,hr,Frame.atR])
  refine⟨v,ni,hR,.head A9 ?_⟩;rw[←pq];exact A8
 ·cases h
theorem Y4(ht:TR ρ nt t a.tmps)(j:Nat)(hk:sN ops t j=true):yielded ops a.tmps j=E9 ops t j:=by
 unfold sN at hk;unfold yielded E9;cases e1:ops[j]? with
 |none=>rfl
 |some q=>
  rw[e1] at hk;simp only[Option.bind_some];simp only at hk;cases e2:q.dst with
  |none=>rfl
  |some d=>
   rw[e2] at hk;simp only[Option.bind_some];simp only at hk;cases e4:t.get d with
   |none=>rw[e4] at hk;cases hk
   |some y=>
    have hv:=ht.2 d y e4;rw[Array.getD_eq_getD_getElem?] at hv;cases e3:a.tmps[d]? with
    |none=>rw[e3] at hv;cases y<;>first|rfl|(exfalso;simp only[Option.getD_none,VR,Go.undef] at hv;cases hv)
    |some v=>
     rw[e3] at hv;simp only[Option.getD_some] at hv;cases v with
     |bool c=>rw[T8 hv]
     |_=>cases y<;>first|rfl|(exfalso;simp only[VR] at hv;cases hv)
theorem Y5{g:Nat×Bool}(ht:TR ρ nt t a.tmps)(hg:o.guard=some g)(hk:sN ops t g.1=true):Region.wanted o (yielded ops a.tmps)=p0 ops g t:=by
 unfold Region.wanted p0;rw[hg];simp only[Y4 ht g.1 hk];cases E9 ops t g.1 with
 |none=>rfl
 |some b=>cases b<;>cases g.2<;>rfl
theorem CF{v:AV}(h:jk nt t dst v=some t1):(dst=none/\t1=t)\/∃d,dst=some d/\d<nt/\t1=t.put d (some v):=by
 cases dst with
 |none=>injection h with h;exact .inl ⟨rfl,h.symm⟩
 |some d=>
  have h': @Bool.rec (fun _=>Option<|Tr AV) none (some<|t.put d<|some v) (Nat.blt d nt)=some t1:=h;rw[yG] at h';by_cases q:d<nt
  ·rw[if_pos q] at h';injection h' with h';exact .inr ⟨d,rfl,q,h'.symm⟩
  ·rw[if_neg q] at h';cases h'
theorem HX{y:AV}{v:Value}(ht:TR ρ nt t a.tmps)(iZ:nt<=top)(h:jk nt t dst y=some t1)(hv:VR ρ y v):TR ρ nt t1 (a.put dst v).tmps/\(a.put dst v).defers=a.defers:=by
 rcases CF h with⟨rfl,rfl⟩|⟨d,rfl,hd,rfl⟩
 ·exact⟨ht,rfl⟩
 ·exact⟨ht.set hd iZ hv,rfl⟩
structure At (B:aJ) (ρ:aw) (s:AS) (nt:Nat) (t:Tr AV) (w:World) (a:Act):Prop where
 tr:TR ρ nt t a.tmps
 rel:Rel B ρ s.h w
 g:gd ρ
 nt:nt<=top
 cJ:bx s
def DP(P:Program)(B:aJ)(ρ:aw)(s s1:AS)(nt:Nat)(t1:Tr AV)(w:World)(a:Act)(m:Machine)(m':Act->World->Machine):Prop:=∃σ a' w',Ext s.nx s1.nx ρ σ/\At B σ s1 nt t1 w' a'/\a'.defers=a.defers/\cH B w w'/\Steps P m (m' a' w')
theorem Ta(hc:fQ P B Ye)(hl:∀t a,Yd<|Ye t a)(ho:ops[i]? =some o)(aD:At B ρ s nt t w a)(hf:dE s.nx s1.nx ρ)(h:gN P Ye nt ops o t s= .ok t1 s1)(b:Frame)(k:List Item)(cs:List Frame)(rest:List Nat):
 DP P B ρ s s1 nt t1 w a (lone (b.atR a<|.inRegion ops (i::rest)::k) cs w) (fun a' w'=>lone (b.atR a'<|.inRegion ops rest::k) cs w'):=by
 have main:∀(f:(dG P o.op).val Ye t s=(dG P o.op).val Ye t s),Region.wanted o (yielded ops a.tmps)=true->rQ (dG P o.op) o.dst Ye nt t s= .ok t1 s1->
  DP P B ρ s s1 nt t1 w a (lone (b.atR a<|.inRegion ops (i::rest)::k) cs w) (fun a' w'=>lone (b.atR a'<|.inRegion ops rest::k) cs w'):=by
  intro _ hw hk;unfold rQ at hk;obtain⟨v,s2,h1,h2⟩:=M.aP hk;obtain⟨h3,rfl⟩:=hI h2;obtain⟨hd,hb⟩:=aes hc hl aD.tr aD.g aD.cJ aD.rel hf h1;obtain⟨u,w',⟨σ,e1,e2,e3,e4⟩,st⟩:=RE ho hw hd hb b k cs rest;obtain⟨q1,q2⟩:=HX (aD.tr.mono e1.le) aD.nt h3 e2;exact⟨σ,a.put o.dst u,w',e1,⟨q1,e3,aD.g.mono e1.le,aD.nt,(Yd.GH P hl t o.op).cJ aD.cJ h1⟩,q2,e4,st⟩
 unfold gN Bn at h;cases hg:o.guard with
 |none=>rw[hg] at h;exact main rfl (by unfold Region.wanted;rw[hg]) h
 |some g=>
  rw[hg] at h;have h':tu ops g (dG P o.op) o.dst Ye nt t s= .ok t1 s1:=h;unfold tu at h';obtain⟨hk,h'⟩:=cW h';have hw:=Y5 (ops:=ops) aD.tr hg hk;cases q:p0 ops g t with
  |true=>rw[q] at h' hw;exact main rfl hw h'
  |false=>rw[q] at h' hw;obtain⟨h3,rfl⟩:=hI (show lift (jk nt t o.dst p8) s= .ok t1 s1 from h');obtain⟨q1,q2⟩:=HX aD.tr aD.nt h3<|VR.undef ρ;have hs:=stepR_op_skip (P:=P) (b:=b) (a:=a) (k:=k) (cs:=cs) (w:=w) (ops:=ops) (i:=i) (rest:=rest) (by simp[ho];simpa using hw);simp only[ho,Option.bind_some] at hs;exact⟨ρ,a.put o.dst undef,w,Ext.refl _ _ _,⟨q1,aD.rel,aD.g,aD.nt,aD.cJ⟩,q2,cH.refl _ _,.one hs⟩
theorem MR{ops:Array Oper}{nt:Nat}(hc:fQ P B Ye)(hl:∀t a,Yd<|Ye t a)(b:Frame)(k:List Item)(cs:List Frame):∀(n i:Nat) (l:List Oper) {t t1:Tr AV} {s s1:AS} {ρ:aw} {a:Act} {w:World},l.length=n->ops.toList.drop i=l->
 At B ρ s nt t w a->dE s.nx s1.nx ρ->jl P Ye nt ops l t s= .ok t1 s1->
 DP P B ρ s s1 nt t1 w a (lone (b.atR a<|.inRegion ops (List.range' i n)::k) cs w) (fun a' w'=>lone (b.atR a' k) cs w')
 |0,i,l,t,t1,s,s1,ρ,a,w,hn,_,aD,_,h=>by have:l=[]:=List.eq_nil_of_length_eq_zero hn;subst this;obtain⟨rfl,rfl⟩:=bD (show M.pure t s= .ok t1 s1 from h);exact⟨ρ,a,w,Ext.refl _ _ _,aD,rfl,cH.refl _ _,.one stepR_region_end⟩
 |n+1,i,l,t,t1,s,s1,ρ,a,w,hn,mR,aD,hf,h=>by
  cases l with
  |nil=>cases hn
  |cons o l=>
   obtain⟨t2,s2,h1,h2⟩:=M.aP (show((gN P Ye nt ops o t).bind<|jl P Ye nt ops l) s= .ok t1 s1 from h);have ho:ops[i]? =some o:=by
    have:(ops.toList.drop i)[0]? =some o:=by rw[mR];rfl
    rw[List.getElem?_drop] at this;simpa using this
   have afT:ops.toList.drop (i+1)=l:=by rw[←List.drop_drop,mR];rfl
   have mT:s.nx<=s2.nx:=(Yd.gN P hl nt ops o t).le aD.cJ h1;have eF:bx s2:=(Yd.gN P hl nt ops o t).cJ aD.cJ h1;have pJ:s2.nx<=s1.nx:=(Yd.jl P hl nt ops l t2).le eF h2;obtain⟨σ,a',w',e1,e2,e3,e4,e5⟩:=Ta hc hl ho aD (hf.sub (Nat.le_refl _) pJ) h1 b k cs<|List.range' (i+1) n;obtain⟨τ,GP,ni,f1,f2,f3,f4,f5⟩:=MR hc hl b k cs n (i+1) l (by simpa using hn) afT e2 (hf.next mT e1) h2;exact⟨τ,GP,ni,e1.trans mT pJ f1,f2,f3.trans e3,e4.trans f4,by rw[List.range'_succ];exact Steps.trans e5 f5⟩
theorem Zy{id:Nat}(hc:fQ P B Ye)(hl:∀t a,Yd<|Ye t a)(aD:At B ρ s nt t w a)(hf:dE s.nx s1.nx ρ)(h:jl P Ye nt ops ops.toList t s= .ok t1 s1)(b:Frame)(k:List Item)(cs:List Frame):
 DP P B ρ s s1 nt t1 w a (lone (b.atR a<|.code (.region id ops false)::k) cs w) (fun a' w'=>lone (b.atR a' k) cs w'):=by
 obtain⟨σ,a',w',e1,e2,e3,e4,e5⟩:=MR hc hl b k cs ops.size 0 ops.toList iJ iJ aD hf h;exact⟨σ,a',w',e1,e2,e3,e4,.head stepR_region (by rw[List.range_eq_range'];exact e5)⟩
end
end Go.Rn
namespace Go.Rn
open Go.RowKit
variable {listed:Array Bool} {i:Nat}
def oi(acc:Array Nat)(o:Oper):Nat:=o.after.foldl (fun s e=>if Region.binds .any e then s|||2 ^ e.on|||acc.getD e.on 0 else s) 0
theorem Q9(acc:Array Nat)(o:Oper)(i:Nat):(oi acc o).testBit i=true↔∃e∈o.after.toList,Region.binds .any e=true/\(e.on=i\/(acc.getD e.on 0).testBit i=true):=by
 unfold oi;rw[←Array.foldl_toList];have:∀(l:List Edge) (s:Nat),(l.foldl (fun s e=>if Region.binds .any e then s|||2 ^ e.on|||acc.getD e.on 0 else s) s).testBit i=true↔
  s.testBit i=true\/∃e∈l,Region.binds .any e=true/\(e.on=i\/(acc.getD e.on 0).testBit i=true):=by
  intro l;induction l with
  |nil=>intro s;simp
  |cons e l ih=>
   intro s;rw[List.foldl_cons,ih];by_cases q:Region.binds .any e=true
   ·rw[if_pos q];simp only[Nat.testBit_or,Bool.or_eq_true,Nat.testBit_two_pow,decide_eq_true_eq,List.mem_cons,exists_eq_or_imp,q,true_and];constructor
    ·rintro ((h|h)|h)
     ·rcases h with h|h
      ·exact .inl h
      ·exact .inr<|.inl<|.inl h
     ·exact .inr<|.inl<|.inr h
     ·exact .inr<|.inr h
    ·rintro (h|(h|h)|h)
     ·exact .inl<|.inl<|.inl h
     ·exact .inl<|.inl<|.inr h
     ·exact .inl<|.inr h
     ·exact .inr h
   ·rw[if_neg q];simp only[List.mem_cons,exists_eq_or_imp,q,false_and,false_or,Bool.false_eq_true]
 have h:=this o.after.toList 0;simpa using h
theorem Lz(l:List Oper):∀(acc:Array Nat),(l.foldl (fun acc o=>acc.push<|oi acc o) acc).size=acc.size+l.length/\
 (∀k,k<acc.size->(l.foldl (fun acc o=>acc.push<|oi acc o) acc).getD k 0=acc.getD k 0):=by
 induction l with
 |nil=>intro acc;exact⟨by simp,fun k _=>rfl⟩
 |cons o l ih=>intro acc;rw[List.foldl_cons];obtain⟨h1,h2⟩:=ih<|acc.push<|oi acc o;refine⟨by rw[h1];simp;omega,fun k hk=>?_⟩;rw[h2 k vJ];simp only[Array.getD_eq_getD_getElem?,Array.getElem?_push];rw[if_neg aj]
theorem Sj{ops:Array Oper}{j:Nat}{o:Oper}(ho:ops[j]? =some o):
 (Region.before ops).getD j 0=oi ((ops.toList.take j).foldl (fun acc o=>acc.push<|oi acc o) #[]) o/\
 ∀k,k<j->((ops.toList.take j).foldl (fun acc o=>acc.push<|oi acc o) #[]).getD k 0=(Region.before ops).getD k 0:=by
 have hb:Region.before ops=ops.toList.foldl (fun acc o=>acc.push<|oi acc o) #[]:=by unfold Region.before;rw[←Array.foldl_toList];rfl
 have hj:j<ops.toList.length:=by have:=(Array.getElem?_eq_some_iff.1 ho).1;simpa using this
 have kJ:ops.toList[j]? =some o:=by simpa using ho
 have aet:ops.toList=ops.toList.take j++o::ops.toList.drop (j+1):=by
  have e:ops.toList.drop j=o::ops.toList.drop (j+1):=by rw[List.drop_eq_getElem_cons hj];congr 1;rw[List.getElem?_eq_getElem hj] at kJ;injection kJ
  rw[←e,List.take_append_drop]
 obtain⟨s1,_⟩:=Lz (ops.toList.take j) #[];have ll:((ops.toList.take j).foldl (fun acc o=>acc.push<|oi acc o) #[]).size=j:=by rw[s1,List.length_take,Nat.min_eq_left aj];exact Nat.zero_add j
 generalize hA:(ops.toList.take j).foldl (fun acc o=>acc.push<|oi acc o) #[]=A at*;have ya:Region.before ops=(ops.toList.drop<|j+1).foldl (fun acc o=>acc.push<|oi acc o) (A.push<|oi A o):=by
  rw[hb]
  conv=>lhs;rw[aet]
  rw[List.foldl_append,hA,List.foldl_cons]
 obtain⟨_,q2⟩:=Lz (ops.toList.drop<|j+1)<|A.push<|oi A o;refine⟨?_,fun k hk=>?_⟩
 ·rw[ya,q2 j vJ];rw[Array.getD_eq_getD_getElem?,Array.getElem?_push,if_pos ll.symm];rfl
 ·rw[ya,q2 k vJ];simp only[Array.getD_eq_getD_getElem?,Array.getElem?_push];rw[if_neg aj]
theorem Rq(ops:Array Oper):(Region.before ops).size=ops.size:=by
 have hb:Region.before ops=ops.toList.foldl (fun acc o=>acc.push<|oi acc o) #[]:=by unfold Region.before;rw[←Array.foldl_toList];rfl
 rw[hb,(Lz ops.toList #[]).1];simp
theorem Yw{ops:Array Oper}(he:Im ops)(D:Nat->Prop)(hD:∀(j:Nat) (o:Oper) (e:Edge),ops[j]? =some o->D j->e∈o.after->Region.binds .any e=true->D e.on):
 ∀(n j i:Nat),j<=n->((Region.before ops).getD j 0).testBit i=true->i<j/\(D j->D i)/\((∀(o:Oper) (e:Edge),ops[j]? =some o->e∈o.after->Region.binds .any e=true->D e.on)->D i):=by
 intro n;induction n with
 |zero=>
  intro j i hj h;have:j=0:=by omega
  subst this;cases ho:ops[0]? with
  |none=>
   have:¬0<(Region.before ops).size:=by rw[Rq];intro q;rw[Array.getElem?_eq_getElem q] at ho;cases ho
   rw[Array.getD_eq_getD_getElem?,Array.getElem?_eq_none aj] at h;simp at h
  |some o=>obtain⟨h1,_⟩:=Sj ho;rw[h1,Q9] at h;obtain⟨e,hm,B2,_⟩:=h;exact absurd (he 0 o e ho (Array.mem_toList_iff.1 hm) B2)<|Nat.not_lt_zero _
 |succ n ih=>
  intro j i hj h;by_cases q:j<=n
  ·exact ih j i q h
  ·have:j=n+1:=by omega
   subst this;cases ho:ops[n+1]? with
   |none=>
    have:¬n+1<(Region.before ops).size:=by rw[Rq];intro q;rw[Array.getElem?_eq_getElem q] at ho;cases ho
    rw[Array.getD_eq_getD_getElem?,Array.getElem?_eq_none aj] at h;simp at h
   |some o=>
    obtain⟨h1,h2⟩:=Sj ho;rw[h1,Q9] at h;obtain⟨e,hm,B2,cS⟩:=h;have eB:=Array.mem_toList_iff.1 hm;have bJ:=he (n+1) o e ho eB B2;rcases cS with rfl|cS
    ·exact⟨bJ,fun PX=>hD _ o e ho PX eB B2,fun dK=>dK o e rfl eB B2⟩
    ·rw[h2 e.on bJ] at cS;obtain⟨a,b,_⟩:=ih e.on i aj cS;exact⟨by omega,fun PX=>b<|hD _ o e ho PX eB B2,fun dK=>b<|dK o e rfl eB B2⟩
def open_(listed:Array Bool):Nat:=(List.range listed.size).countP fun i=> !listed.getD i true
theorem aai{n:Nat}{p q:Nat->Bool}(hi:i<n)(hp:p i=true)(hq:q i=false)(cn:∀k,k≠i->q k=p k):(List.range n).countP q<(List.range n).countP p:=by
 induction n with
 |zero=>omega
 |succ n ih=>
  rw[List.range_succ,List.countP_append,List.countP_append];by_cases e:i=n
  ·subst e;have:(List.range i).countP q=(List.range i).countP p:=by
    apply List.countP_congr;intro k hk;have:k≠i:=by have:=List.mem_range.1 hk;omega
    rw[cn k this]
   rw[this];simp[hp,hq]
  ·have:=ih aj;have e2:(List.countP q [n])=List.countP p [n]:=by simp[List.countP_cons,cn n<|Ne.symm e]
   rw[e2];omega
theorem abq(hi:listed.getD i true=false):open_ (listed.setIfInBounds i true)<open_ listed:=by
 have bJ:i<listed.size:=by
  rcases Nat.lt_or_ge i listed.size with q|q
  ·exact q
  ·rw[Array.getD_eq_getD_getElem?,Array.getElem?_eq_none q] at hi;cases hi
 unfold open_;rw[Array.size_setIfInBounds];refine aai bJ (by simp[hi]) ?_ fun k hk=>?_
 ·simp[Array.getD_eq_getD_getElem?,Array.getElem?_setIfInBounds_self_of_lt bJ]
 ·simp only[Array.getD_eq_getD_getElem?];rw[Array.getElem?_setIfInBounds_ne aj]
theorem aaj(h:open_ listed=0):∀i,i<listed.size->listed.getD i false=true:=by intro i hi;unfold open_ at h;rw[List.countP_eq_zero] at h;have:=h i<|List.mem_range.2 hi;rw[Array.getD_eq_getD_getElem?,Array.getElem?_eq_getElem hi] at this ⊢;simpa using this
theorem Zz{ops:Array Oper}(he:Im ops)(hs:listed.size=ops.size)(hr:Region.ready .any ops listed=[]):∀n i,i<n->i<ops.size->listed.getD i false=true:=by
 intro n;induction n with
 |zero=>intro i hi;omega
 |succ n ih=>
  intro i hi bJ;by_cases q:i<n
  ·exact ih i q bJ
  ·have:i=n:=by omega
   subst this;cases h:listed.getD i false with
   |true=>rfl
   |false=>
    exfalso;have qy:i∈Region.ready .any ops listed:=by
     unfold Region.ready;rw[List.mem_filter];refine⟨List.mem_range.2 bJ,?_⟩;have h1:listed.getD i true=false:=by rw[Array.getD_eq_getD_getElem?,Array.getElem?_eq_getElem aj] at h ⊢;simpa using h
     rw[h1,Array.getElem?_eq_getElem bJ];simp only[Bool.not_false,Bool.true_and,Option.map_some,Option.getD_some];rw[Array.all_eq_true_iff_forall_mem];intro e hm;cases hb:Region.binds .any e with
     |false=>rfl
     |true=>have ahM:=he i ops[i] e (Array.getElem?_eq_getElem bJ) hm hb;simp only[Bool.not_true,Bool.false_or];exact ih e.on ahM aj
    rw[hr] at qy;cases qy
section
variable {P:Program} {ops:Array Oper}
theorem aak(he:Im ops)(b:Frame)(k:List Item)(cs:List Frame)(Inv:Array Bool->Act->World->Prop)(afU:∀(listed:Array Bool) (a:Act) (w:World) (i:Nat) (o:Oper) (rest:List Nat),listed.size=ops.size->Inv listed a w->ops[i]? =some o->listed.getD i true=false->
 (∀e∈o.after,Region.binds .any e=true->listed.getD e.on false=true)->
 ∃a' w',Inv (listed.setIfInBounds i true) a' w'/\Steps P (lone (b.atR a<|.inRegion ops (i::rest)::k) cs w) (lone (b.atR a'<|.inRegion ops rest::k) cs w')):
 ∀(fuel t:Nat) (listed:Array Bool) (a:Act) (w:World),listed.size=ops.size->open_ listed<=fuel->Inv listed a w->∃AK a' w',AK.size=ops.size/\(∀i,i<ops.size->AK.getD i false=true)/\Inv AK a' w'/\Steps P (lone (b.atR a<|.inRegion ops (Region.linearise.go .any ops fuel t listed [])::k) cs w) (lone (b.atR a' k) cs w'):=by
 intro fuel;induction fuel with
 |zero=>
  intro t listed a w hs ho hi;refine⟨listed,a,w,hs,?_,hi,?_⟩
  ·intro i bJ;exact aaj aj i aj
  ·simp only[Region.linearise.go,List.reverse_nil];exact .one stepR_region_end
 |succ fuel ih=>
  intro t listed a w hs ho hi;simp only[Region.linearise.go];change ∃AK a' w',AK.size=ops.size/\(∀i,i<ops.size->AK.getD i false=true)/\Inv AK a' w'/\
   Steps P (lone (b.atR a<|.inRegion ops (match (Region.ready .any ops listed)[t % (Region.ready .any ops listed).length]? with
    |some i=>Region.linearise.go .any ops fuel (t / (Region.ready .any ops listed).length) (listed.setIfInBounds i true) [i]
    |none=>[].reverse)::k) cs w) (lone (b.atR a' k) cs w')
  cases hq:(Region.ready .any ops listed)[t % (Region.ready .any ops listed).length]? with
  |none=>
   have J3:Region.ready .any ops listed=[]:=by
    cases hr:Region.ready .any ops listed with
    |nil=>rfl
    |cons x xs=>rw[hr] at hq;have bJ:t % (x::xs).length<(x::xs).length:=Nat.mod_lt _ iJ;simp at hq;simp at bJ;omega
   refine⟨listed,a,w,hs,fun i bJ=>Zz he hs J3 (i+1) i aj bJ,hi,?_⟩;simp only[List.reverse_nil];exact .one stepR_region_end
  |some i=>
   simp only[];have qy:=List.mem_of_getElem? hq;unfold Region.ready at qy;rw[List.mem_filter,Bool.and_eq_true] at qy;obtain⟨bJ,h1,h2⟩:=qy;have ahN:=List.mem_range.1 bJ;have Xc:ops[i]? =some ops[i]:=Array.getElem?_eq_getElem ahN;rw[Xc] at h2;simp only[Option.map_some,Option.getD_some] at h2;rw[Array.all_eq_true_iff_forall_mem] at h2;have xX:listed.getD i true=false:=by simpa using h1
   rw[linearise_go_acc,List.reverse_singleton,List.singleton_append];obtain⟨a',w',j1,j2⟩:=afU listed a w i ops[i] (Region.linearise.go .any ops fuel (t / (Region.ready .any ops listed).length) (listed.setIfInBounds i true) []) hs hi Xc xX (fun e hm hb=>by have:=h2 e hm;rw[hb] at this;simpa using this);obtain⟨l',GP,ni,k0,k1,k2,k3⟩:=ih (t / (Region.ready .any ops listed).length) (listed.setIfInBounds i true) a' w' (by simp[hs]) (by have:=abq xX;omega) j1;exact⟨l',GP,ni,k0,k1,k2,Steps.trans j2 k3⟩
theorem abr(n:Nat):open_ (Array.replicate n false)<=n:=by unfold open_;have:=List.countP_le_length (p:=fun i=> !(Array.replicate n false).getD i true) (l:=List.range (Array.replicate n false).size);simpa using this
end
end Go.Rn
namespace Go.Rn
open Go.RowKit
variable {g f:Operand->Option AV}
section
variable {P:Program} {Ye:aI} {t u:Tr AV}
theorem Hx:∀{l:List Operand},(∀y∈l,f y=g y)->jT f l=jT g l
 |[],_=>rfl
 |y::l,h=>by simp only[jT,h y List.mem_cons_self,Hx fun z hz=>h z<|List.mem_cons_of_mem _ hz]
theorem LA:∀{l:List<|Nat×Operand},(∀y∈l,f y.2=g y.2)->uV f l=uV g l
 |[],_=>rfl
 |(i,y)::l,h=>by simp only[uV,h (i,y) List.mem_cons_self,LA fun z hz=>h z<|List.mem_cons_of_mem _ hz]
theorem Ma{y:Option Operand}(h:∀z,y=some z->f z=g z):opt f y=opt g y:=by
 cases y with
 |none=>rfl
 |some z=>simp only[opt,h z rfl]
theorem aal{op:Op}(h:∀y∈op.operands,aG t y=aG u y):(dG P op).val Ye t=(dG P op).val Ye u:=by
 cases op
 case move y=>show uW y Ye t=uW y Ye u;simp only[uW,h y fP]
 case assign y=>show uW y Ye t=uW y Ye u;simp only[uW,h y fP]
 case pick c p q=>show Bm c p q Ye t=Bm c p q Ye u;simp only[Bm,h c fP,h p fP,h q fP]
 case alloc e=>rfl
 case box e y=>show Bz y Ye t=Bz y Ye u;simp only[Bz,h y fP]
 case build ty parts=>show A0 P ty parts.toList Ye t=A0 P ty parts.toList Ye u;simp only[A0,LA (f:=aG t) (g:=aG u) (l:=parts.toList) fun y hy=>h y.2 (by simp only[Op.operands,List.mem_toArray];exact List.mem_map_of_mem hy)]
 case buildSlice ty len parts=>show Ai P ty len parts.toList Ye t=Ai P ty len parts.toList Ye u;simp only[Ai,LA (f:=aG t) (g:=aG u) (l:=parts.toList) fun y hy=>h y.2 (by simp only[Op.operands,List.mem_toArray];exact List.mem_map_of_mem hy)]
 case load ty y=>show ti P ty y Ye t=ti P ty y Ye u;simp only[ti,h y fP]
 case store ty y z=>show wW P ty y z Ye t=wW P ty y z Ye u;simp only[wW,h y fP,h z fP]
 case nilCheck y=>show Am y Ye t=Am y Ye u;simp only[Am,h y fP]
 case binOp op ty y z v=>show tI P op ty y z Ye t=tI P op ty y z Ye u;simp only[tI,h y fP,h z fP]
 case unOp op ty y=>show BT op y Ye t=BT op y Ye u;simp only[BT,h y fP]
 case convert src dst y=>show Av P src dst y Ye t=Av P src dst y Ye u;simp only[Av,h y fP]
 case makeInterface ty y=>show Cr P ty y Ye t=Cr P ty y Ye u;simp only[Cr,h y fP]
 case makeFunc fn first captured=>show An fn first.toList captured.toList Ye t=An fn first.toList captured.toList Ye u;simp only[An,Hx (f:=aG t) (g:=aG u) (l:=first.toList) fun y hy=>h y (by simp only[Op.operands,Array.mem_append];exact .inl<|Array.mem_toList_iff.1 hy),Hx (f:=aG t) (g:=aG u) (l:=captured.toList) fun y hy=>h y (by simp only[Op.operands,Array.mem_append];exact .inr<|Array.mem_toList_iff.1 hy)]
 case makeMap ty y=>
  cases y with
  |none=>rfl
  |some y=>show Aw P ty (some y) Ye t=Aw P ty (some y) Ye u;simp only[Aw,h y fP]
 case makeSlice ty l c=>show Ak P ty l c Ye t=Ak P ty l c Ye u;simp only[Ak,h l fP,h c fP]
 case slice ty y lo hi mx=>show sM P ty y lo hi mx Ye t=sM P ty y lo hi mx Ye u;simp only[sM,h y fP,Ma (f:=aG t) (g:=aG u) (y:=lo) (fun z hz=>h z<|by simp[Op.operands,hz]),Ma (f:=aG t) (g:=aG u) (y:=hi) (fun z hz=>h z<|by simp[Op.operands,hz]),Ma (f:=aG t) (g:=aG u) (y:=mx) fun z hz=>h z<|by simp[Op.operands,hz]]
 case fieldAddr ty y f=>show Al P ty y f Ye t=Al P ty y f Ye u;simp only[Al,h y fP]
 case field ty y f=>show A3 P ty y f Ye t=A3 P ty y f Ye u;simp only[A3,h y fP]
 case indexAddr ty y z=>show pU P ty y z Ye t=pU P ty y z Ye u;simp only[pU,h y fP,h z fP]
 case index ty y z=>show A4 P ty y z Ye t=A4 P ty y z Ye u;simp only[A4,h y fP,h z fP]
 case lookup ty y z ok=>show wK P ty y z ok Ye t=wK P ty y z ok Ye u;simp only[wK,h y fP,h z fP]
 case mapUpdate ty m k y=>show pZ P ty m k y Ye t=pZ P ty m k y Ye u;simp only[pZ,h m fP,h k fP,h y fP]
 case insert ty m k y=>show pZ P ty m k y Ye t=pZ P ty m k y Ye u;simp only[pZ,h m fP,h k fP,h y fP]
 case typeAssert y xt asserted ok=>show CO P asserted ok y Ye t=CO P asserted ok y Ye u;simp only[CO,h y fP]
 case range ty y=>show A5 P ty y Ye t=A5 P ty y Ye u;simp only[A5,h y fP]
 case entry y=>show A6 y Ye t=A6 y Ye u;simp only[A6,h y fP]
 case next y PW=>
  cases PW with
  |true=>show CD y Ye t=CD y Ye u;simp only[CD,h y fP]
  |false=>rfl
 case extract y i=>show Ax y i Ye t=Ax y i Ye u;simp only[Ax,h y fP]
 case call c=>
  obtain⟨callee,args,ts⟩:=c;have ha:∀(cl:Callee),(∀y∈(Op.call ⟨cl,args,ts⟩).operands,aG t y=aG u y)->jT (aG t) args.toList=jT (aG u) args.toList:=fun cl hh=>Hx fun y hy=>hh y (by simp only[Op.operands,Call.operands,Array.mem_append];exact .inr<|Array.mem_toList_iff.1 hy);cases callee with
  |builtin b=>show og P b ts args.toList Ye t=og P b ts args.toList Ye u;simp only[og,ha _ h]
  |value f=>show tj f args.toList Ye t=tj f args.toList Ye u;simp only[tj,ha _ h,h f<|by simp[Op.operands,Call.operands]]
  |invoke r name=>rfl
 all_goals rfl
theorem abt{y:Operand}(h:∀d,y= .tmp d->t.get d=u.get d):aG t y=aG u y:=by
 cases y with
 |tmp d=>show t.get d=u.get d;rw[h d rfl]
 |_=>rfl
theorem RF{nt:Nat}{ops:Array Oper}{o:Oper}(h:∀d∈o.looksAt ops,t.get d=u.get d){s s1:AS}{t1:Tr AV}(hr:gN P Ye nt ops o t s= .ok t1 s1):
 ∃v,jk nt t o.dst v=some t1/\∀u1,jk nt u o.dst v=some u1->gN P Ye nt ops o u s= .ok u1 s1:=by
 have eU:(dG P o.op).val Ye t=(dG P o.op).val Ye u:=aal fun y hy=>abt fun d hd=>h d (by unfold Oper.looksAt;refine List.mem_append_left _<|List.mem_filterMap.2 ⟨y,Array.mem_toList_iff.2 hy,by rw[hd]⟩);have main:rQ (dG P o.op) o.dst Ye nt t s= .ok t1 s1->∃v,jk nt t o.dst v=some t1/\∀u1,jk nt u o.dst v=some u1->rQ (dG P o.op) o.dst Ye nt u s= .ok u1 s1:=by intro hk;unfold rQ at hk;obtain⟨v,s2,h1,h2⟩:=M.aP hk;obtain⟨h3,rfl⟩:=hI h2;refine⟨v,h3,fun u1 hu=>?_⟩;unfold rQ;rw[←eU,M.bK h1];unfold lift;rw[hu]
 unfold gN Bn at hr ⊢;cases hg:o.guard with
 |none=>rw[hg] at hr;exact main hr
 |some g=>
  rw[hg] at hr;have lF:tu ops g (dG P o.op) o.dst Ye nt t s= .ok t1 s1:=hr;have hw:p0 ops g t=p0 ops g u:=by
   unfold p0 E9;cases e1:ops[g.1]? with
   |none=>rfl
   |some q=>
    simp only;cases e2:q.dst with
    |none=>rfl
    |some d=>simp only;rw[h d (by unfold Oper.looksAt;refine List.mem_append_right _ ?_;rw[hg];simp[e1,e2])]
  have jx:sN ops t g.1=sN ops u g.1:=by
   unfold sN;cases e1:ops[g.1]? with
   |none=>rfl
   |some q=>
    simp only;cases e2:q.dst with
    |none=>rfl
    |some d=>simp only;rw[h d (by unfold Oper.looksAt;refine List.mem_append_right _ ?_;rw[hg];simp[e1,e2])]
  show ∃v,jk nt t o.dst v=some t1/\∀u1,jk nt u o.dst v=some u1->tu ops g (dG P o.op) o.dst Ye nt u s= .ok u1 s1;unfold tu at lF ⊢;obtain⟨hk,lF⟩:=cW lF;rw[←hw, ←jx,hk,dB];cases q:p0 ops g t with
  |true=>rw[q] at lF;exact main lF
  |false=>rw[q] at lF;obtain⟨h3,rfl⟩:=hI (show lift (jk nt t o.dst p8) s= .ok t1 s1 from lF);refine⟨p8,h3,fun u1 hu=>?_⟩;show lift (jk nt u o.dst p8) s1= .ok u1 s1;unfold lift;rw[hu]
end
end Go.Rn
namespace Go.Rn
open Go.RowKit
variable {b:Array Nat}
theorem Rel.congr{B:aJ}{ρ:aw}{h h':Tr ae}{w:World}(r:Rel B ρ h w)(e:∀m,m<top->h'.get m=h.get m):Rel B ρ h' w:=by
 refine⟨fun n o hn hg=>r.is n o hn (by rw[←e n hn];exact hg),fun n m o p b N M hn hm h1 h2 cS=>r.one n m o p b N M hn hm (by rw[←e n hn];exact h1) (by rw[←e m hm];exact h2) cS,fun n m es ex left cur hn h1=>?_,r.size,
  fun i j m es ex left cur g9 ju iS iV hi hj h1 h2=>r.lone i j m es ex left cur g9 ju iS iV hi hj (by rw[←e i hi];exact h1) (by rw[←e j hj];exact h2),
  r.fz.of (aw.le_refl _) (fun _ _ _=>rfl) (fun b1 _ hn=>hn.sub fun m q hm hq gW=>⟨q,by rw[←e m hm];exact hq,gW⟩),
  r.tk.of (aw.le_refl _) (fun n q hn hq _=>by rw[←e n hn];exact hq) (Nat.le_refl _) (fun _ _ _=>rfl) (fun b1 _ hn=>hn.sub fun m q hm hq gW=>⟨q,by rw[←e m hm];exact hq,gW⟩) (fun _ _ _ _ _ e=>e)⟩
 obtain⟨a,b,c⟩:=r.iter n m es ex left cur hn (by rw[←e n hn];exact h1);exact⟨a,by rw[e m a];exact b,c⟩
theorem QW{x:dt}:∀{all:List dt},sr b x all=true->∀y∈all,x.i=y.i\/sO x y=true\/loose b x.i y.i=false
 |[],_,y,hy=>by cases hy
 |z::l,h,y,hy=>by
  simp only[sr] at h;cases q:(Nat.beq x.i z.i||(sO x z|| !loose b x.i z.i)) with
  |false=>rw[q] at h;cases h
  |true=>
   rw[q] at h;rcases List.mem_cons.1 hy with rfl|hy
   ·simp only[Bool.or_eq_true,Bool.not_eq_true'] at q;rcases q with q|q|q
    ·exact .inl<|eg.1 q
    ·exact .inr<|.inl q
    ·exact .inr<|.inr q
   ·exact QW h y hy
theorem Sk{all:List dt}:∀{l:List dt},qj b all l=true->∀x∈l,sP x=true\/sr b x all=true
 |[],_,x,hx=>by cases hx
 |z::l,h,x,hx=>by
  simp only[qj] at h;cases q:(sP z||sr b z all) with
  |false=>rw[q] at h;cases h
  |true=>
   rw[q] at h;rcases List.mem_cons.1 hx with rfl|hx
   ·exact Bool.or_eq_true_iff.1 q
   ·exact Sk h x hx
theorem Rr{m:List Nat}:∀{l:List Nat},meets l m=false->∀x∈l,x ∉ m
 |[],_,x,hx=>by cases hx
 |z::l,h,x,hx=>by
  simp only[meets] at h;cases q:vt z m with
  |true=>rw[q] at h;cases h
  |false=>
   rw[q] at h;rcases List.mem_cons.1 hx with rfl|hx
   ·intro e;rw[Fb.2 e] at q;cases q
   ·exact Rr h x hx
theorem Rs{lo hi:Nat}:∀{l:List Nat},zb lo hi l=false->∀x∈l,¬(lo<=x/\x<hi)
 |[],_,x,hx=>by cases hx
 |z::l,h,x,hx=>by
  simp only[zb] at h;cases q:(Nat.ble lo z&&Nat.blt z hi) with
  |true=>rw[q] at h;cases h
  |false=>
   rw[q] at h;rcases List.mem_cons.1 hx with rfl|hx
   ·rintro ⟨h1,h2⟩;rw[show Nat.ble lo x=true from aL.2 h1,show Nat.blt x hi=true from(blt_eq _ _).mpr h2] at q;cases q
   ·exact Rs h x hx
section
variable {P:Program} {Ye:aI} {ops:Array Oper} {nt:Nat}
structure Pb (P:Program) (Ye:aI) (ops:Array Oper) (nt:Nat) (H:Nat->Tr ae) (N:Nat->Nat) (T:Nat->Tr AV) (k:Nat) (o:Oper) (x:dt) (s1:AS):Prop where
 lo:x.lo=N k
 hi:x.hi=N (k+1)
 run:gN P Ye nt ops o (T k) ⟨H k,N k,N k,[],[]⟩= .ok (T<|k+1) s1
 h:s1.h=H (k+1)
 nx:s1.nx=N (k+1)
 rd:x.rd=below (N k) s1.rd
 wr:x.wr=below (N k) s1.wr
theorem Sl(hl:∀t a,Yd<|Ye t a):∀(l:List Oper) (i:Nat) {t t':Tr AV} {s s':AS} {ms:List dt},bx s->mY P Ye nt ops l i t s= .ok (t',ms) s'->
 bx s'/\∃(H:Nat->Tr ae) (N:Nat->Nat) (T:Nat->Tr AV),H 0=s.h/\N 0=s.nx/\T 0=t/\H l.length=s'.h/\N l.length=s'.nx/\T l.length=t'/\(∀k,k<=l.length->N k<=top)/\∀k o,l[k]? =some o->∃x s1,ms[k]? =some x/\x.i=i+k/\Pb P Ye ops nt H N T k o x s1
 |[],i,t,t',s,s',ms,fi,h=>by obtain⟨e,rfl⟩:=bD (show M.pure (t,[]) s= .ok (t',ms) s' from h);cases e;exact⟨fi,fun _=>s'.h,fun _=>s'.nx,fun _=>t,rfl,rfl,rfl,rfl,rfl,rfl,fun _ _=>fi.nx,fun k o h=>by simp at h⟩
 |o::l,i,t,t',s,s',ms,fi,h=>by
  obtain⟨x,s2,h1,h2⟩:=M.aP (show((alone i<|gN P Ye nt ops o t).bind fun x=>(mY P Ye nt ops l (i+1) x.1).bind fun y=>M.pure (y.1,x.2::y.2)) s= .ok (t',ms) s' from h);obtain⟨y,s3,h3,h4⟩:=M.aP h2;obtain⟨e,rfl⟩:=bD h4;cases e;obtain⟨a,s1,g1,rfl,rfl⟩:=R9 h1;have PY:bx s1:=(Yd.gN P hl nt ops o t).cJ (s:=⟨s.h,s.nx,s.nx,[],[]⟩) ⟨Nat.le_refl _,fi.nx⟩ g1;have fle:s.nx<=s1.nx:=(Yd.gN P hl nt ops o t).le (s:=⟨s.h,s.nx,s.nx,[],[]⟩) ⟨Nat.le_refl _,fi.nx⟩ g1;have eF:bx ⟨s1.h,s1.nx,s.mark,below s.mark s1.rd++s.rd,below s.mark s1.wr++s.wr⟩:=⟨Nat.le_trans fi.mark fle,PY.nx⟩;obtain⟨f3,H,N,T,a1,a2,a3,a4,a5,a6,a7,a8⟩:=Sl hl l (i+1) (t':=y.1) (ms:=y.2) eF h3;refine⟨f3,fun k=>match k with|0=>s.h|k+1=>H k,fun k=>match k with|0=>s.nx|k+1=>N k,fun k=>match k with|0=>t|k+1=>T k,rfl,rfl,rfl,a4,a5,a6,?_,?_⟩
  ·intro k hk;cases k with
   |zero=>exact fi.nx
   |succ k=>exact a7 k (by simpa using hk)
  ·intro k o2 hk;cases k with
   |zero=>simp only[List.getElem?_cons_zero,Option.some.injEq] at hk;subst hk;refine⟨_,s1,rfl,rfl,⟨rfl,a2.symm,?_,a1.symm,a2.symm,rfl,rfl⟩⟩;show gN P Ye nt ops o t ⟨s.h,s.nx,s.nx,[],[]⟩= .ok (T 0) s1;rw[a3];exact g1
   |succ k=>simp only[List.getElem?_cons_succ] at hk;obtain⟨x,s4,b1,b2,b3⟩:=a8 k o2 hk;exact⟨x,s4,by simpa using b1,by rw[b2];omega,⟨b3.lo,b3.hi,b3.run,b3.h,b3.nx,b3.rd,b3.wr⟩⟩
structure Text (P:Program) (Ye:aI) (ops:Array Oper) (nt:Nat) (H:Nat->Tr ae) (N:Nat->Nat) (T:Nat->Tr AV) (Rd Wr:Nat->Nat->Prop):Prop where
 top:∀k,k<=ops.size->N k<=Rn.top
 up:∀k,k<ops.size->N k<=N (k+1)
 mL:∀k m,k<ops.size->¬Wr k m->m<Rn.top->(H<|k+1).get m=(H k).get m
 made:∀k m,k<ops.size->N k<=m->m<N (k+1)->Wr k m
 wrote:∀k m,k<ops.size->Wr k m->m<N (k+1)/\(m<N k->Rd k m)
 slot:∀k o d,ops[k]? =some o->o.dst≠some d->(T<|k+1).get d=(T k).get d
 apart:∀i j m,i<ops.size->j<ops.size->i≠j->loose (Region.before ops) i j=true->Wr i m->¬Rd j m
 again:∀j o,ops[j]? =some o->∀(h:Tr ae),(∀m,m<Rn.top->Rd j m->h.get m=(H j).get m)->∃t1,gN P Ye nt ops o (T j) ⟨h,N j,N j,[],[]⟩= .ok (T<|j+1) t1/\t1.nx=N (j+1)/\
  (∀m,Wr j m->t1.h.get m=(H<|j+1).get m)/\(∀m,¬Wr j m->m<Rn.top->t1.h.get m=h.get m)
theorem acK(hl:∀t a,Yd<|Ye t a)(iZ:nt<=top){t t':Tr AV}{s s':AS}{ms:List dt}(fi:bx s)(h:mY P Ye nt ops ops.toList 0 t s= .ok (t',ms) s')(hm:qj (Region.before ops) ms ms=true):
 bx s'/\∃(H:Nat->Tr ae) (N:Nat->Nat) (T:Nat->Tr AV) (Rd Wr:Nat->Nat->Prop),H 0=s.h/\N 0=s.nx/\T 0=t/\H ops.size=s'.h/\N ops.size=s'.nx/\T ops.size=t'/\Text P Ye ops nt H N T Rd Wr:=by
 obtain⟨f',H,N,T,a1,a2,a3,a4,a5,a6,a7,a8⟩:=Sl hl ops.toList 0 fi h;have hlen:ops.toList.length=ops.size:=by simp
 rw[hlen] at a4 a5 a6 a7;refine⟨f',H,N,T,fun k m=>∃x,ms[k]? =some x/\m∈x.rd,fun k m=>∃x,ms[k]? =some x/\(m∈x.wr\/(N k<=m/\m<N (k+1))),a1,a2,a3,a4,a5,a6,?_⟩;have ah:∀k,k<ops.size->∃o x s1,ops[k]? =some o/\ms[k]? =some x/\x.i=k/\Pb P Ye ops nt H N T k o x s1:=by
  intro k hk;have ho:ops.toList[k]? =some ops[k]:=by simp[hk]
  obtain⟨x,s1,b1,b2,b3⟩:=a8 k _ ho;exact⟨ops[k],x,s1,Array.getElem?_eq_getElem hk,b1,by omega,b3⟩
 have Kz:∀k,k<ops.size->∀o x s1,Pb P Ye ops nt H N T k o x s1->∃dr dw,mP ⟨H k,N k,N k,[],[]⟩ s1 dr dw/\
  (∀A m0 t,FQ A m0 ⟨H k,N k,N k,[],[]⟩ t->(∀q∈dr,q<m0->A q)->∃t1,gN P Ye nt ops o (T k) t= .ok (T<|k+1) t1/\tJ A m0 s1 t t1 dr dw)/\(∀m,m∈x.rd↔m∈dr/\m<N k)/\(∀m,m∈x.wr↔m∈dw/\m<N k):=by
  intro k hk o x s1 hd;obtain⟨dr,dw,d1,d2⟩:=Yd.gN P hl nt ops o (T k) _ _ _ ⟨Nat.le_refl _,a7 k aj⟩ hd.run;refine⟨dr,dw,d1,d2,fun m=>?_,fun m=>?_⟩
  ·rw[hd.rd,su,d1.rd];simp
  ·rw[hd.wr,su,d1.wr];simp
 refine⟨a7,?_,?_,?_,?_,?_,?_,?_⟩
 ·intro k hk;obtain⟨o,x,s1,_,_,_,hd⟩:=ah k hk;obtain⟨dr,dw,d1,_⟩:=Kz k hk o x s1 hd;have:=d1.nx;rw[hd.nx] at this;exact this
 ·intro k m hk hw jZ;obtain⟨o,x,s1,_,hx,_,hd⟩:=ah k hk;obtain⟨dr,dw,d1,_,_,d4⟩:=Kz k hk o x s1 hd;rw[←hd.h];by_cases q:m<N k
  ·refine d1.same m q fun e=>hw ⟨_,hx,.inl<|(d4 m).2 ⟨e,q⟩⟩
  ·refine d1.nU m ?_ jZ;rw[hd.nx];rcases Nat.lt_or_ge m (N<|k+1) with q2|q2
   ·exact absurd ⟨_,hx,.inr ⟨by omega,q2⟩⟩ hw
   ·exact q2
 ·intro k m hk h1 h2;obtain⟨o,x,s1,_,hx,_,hd⟩:=ah k hk;exact⟨x,hx,.inr ⟨h1,h2⟩⟩
 ·rintro k m hk ⟨x',qI,hw⟩;obtain⟨o,x,s1,_,hx,_,hd⟩:=ah k hk;rw[hx] at qI;cases qI;obtain⟨dr,dw,d1,_,d3,d4⟩:=Kz k hk o _ s1 hd;have GQ:=d1.nx;rw[hd.nx] at GQ;have ahO:N k<=N (k+1):=GQ;rcases hw with hw|⟨h1,h2⟩
  ·obtain⟨e1,e2⟩:=(d4 m).1 hw;exact⟨by omega,fun _=>⟨_,hx,(d3 m).2 ⟨d1.sub m e1,e2⟩⟩⟩
  ·exact⟨h2,fun q=>by omega⟩
 ·intro k o d ho cn;have hk:k<ops.size:=(Array.getElem?_eq_some_iff.1 ho).1;obtain⟨o',x,s1,kJ,hx,_,hd⟩:=ah k hk;rw[ho] at kJ;cases kJ;obtain⟨v,hv,_⟩:=RF (u:=T k) (fun _ _=>rfl) hd.run;rcases CF hv with⟨_,e⟩|⟨d',e1,e2,e3⟩
  ·rw[e]
  ·rw[e3,Tr.lM _ _ _ _<|Nat.lt_of_lt_of_le e2 iZ,if_neg (by intro e;subst e;exact cn e1)]
 ·rintro i j m hi hj cn aeu ⟨x',qI,hw⟩ ⟨y',vM,hr⟩;obtain⟨_,x,s1,_,hx,xi,hd⟩:=ah i hi;obtain⟨_,y,s2,_,hy,yi,he⟩:=ah j hj;rw[hx] at qI;cases qI;rw[hy] at vM;cases vM;rcases Sk hm _ (List.mem_of_getElem? hx) with q|q
  ·unfold sP at q;split at q
   ·rename_i hwr;rcases hw with hw|⟨h1,h2⟩
    ·rw[hwr] at hw;cases hw
    ·have:=aL.1 q;rw[hd.lo,hd.hi] at this;omega
   ·cases q
  ·rcases QW q _ (List.mem_of_getElem? hy) with e|e|e
   ·rw[xi,yi] at e;exact cn e
   ·unfold sO at e;simp only[Bool.and_eq_true,Bool.not_eq_true'] at e;rcases hw with hw|⟨h1,h2⟩
    ·exact Rr e.1 m hw hr
    ·exact Rs e.2 m hr ⟨by rw[hd.lo];exact h1,by rw[hd.hi];exact h2⟩
   ·rw[xi,yi,aeu] at e;cases e
 ·intro j o ho h' hag;have hj:j<ops.size:=(Array.getElem?_eq_some_iff.1 ho).1;obtain⟨o',x,s1,kJ,hx,_,hd⟩:=ah j hj;rw[ho] at kJ;cases kJ;obtain⟨dr,dw,d1,d2,d3,d4⟩:=Kz j hj o x s1 hd;obtain⟨t1,c1,c2⟩:=d2 (fun m=>∃x,ms[j]? =some x/\m∈x.rd) (N j) ⟨h',N j,N j,[],[]⟩
   ⟨rfl,rfl,Nat.le_refl _,fun k hk cS=>by
    rcases cS with cS|cS
    ·exact(hag k (Nat.lt_of_lt_of_le hk<|a7 j aj) cS).symm
    ·exact absurd hk<|Nat.not_lt.2 cS⟩ (fun q hq bJ=>⟨x,hx,(d3 q).2 ⟨hq,bJ⟩⟩)
  have cM:t1.nx=N (j+1):=by rw[←c2.pb.nx,hd.nx]
  refine⟨t1,c1,cM,?_,?_⟩
  ·rintro m ⟨x',qI,hw⟩;rw[hx] at qI;cases qI;rw[←hd.h];have GQ:=d1.nx;rw[hd.nx] at GQ;have ahO:N j<=N (j+1):=GQ;symm;rcases hw with hw|⟨h1,h2⟩
   ·obtain⟨e1,e2⟩:=(d4 m).1 hw;exact c2.pb.is m (by rw[hd.nx];omega)<|.inl ⟨x,hx,(d3 m).2 ⟨d1.sub m e1,e2⟩⟩
   ·exact c2.pb.is m (by rw[hd.nx];exact h2)<|.inr h1
  ·intro m hw jZ;by_cases q:m<N j
   ·exact c2.same m q fun e=>hw ⟨_,hx,.inl<|(d4 m).2 ⟨e,q⟩⟩
   ·refine c2.nU m ?_ jZ;rw[hd.nx];rcases Nat.lt_or_ge m (N<|j+1) with q2|q2
    ·exact absurd ⟨_,hx,.inr ⟨by omega,q2⟩⟩ hw
    ·exact q2
end
end Go.Rn
namespace Go.Rn
open Go.RowKit
variable {ρ:aw} {w:World} {t:Tr AV} {listed:Array Bool} {j:Nat} {a:Act}
section
variable {P:Program} {B:aJ} {Ye:aI} {ops:Array Oper} {nt:Nat} {H:Nat->Tr ae} {N:Nat->Nat} {T:Nat->Tr AV} {Rd Wr:Nat->Nat->Prop}
def jV(listed:Array Bool)(i:Nat):Prop:=listed.getD i false=true
def Cut(n:Nat)(W:Nat->Prop)(D:Nat->Prop)(c:Nat):Prop:=c<=n/\∀i,i<n->W i->(D i↔i<c)
theorem RG{α:Type}{f:Nat->α}{n:Nat}{W:Nat->Prop}(hk:∀k,k<n->¬W k->f (k+1)=f k):∀(m c:Nat),c+m<=n->(∀i,c<=i->i<c+m->¬W i)->f (c+m)=f c
 |0,_,_,_=>rfl
 |m+1,c,hn,hw=>by have h1:=hk (c+m) aj<|hw (c+m) aj aj;rw[show c+(m+1)=c+m+1 from rfl,h1];exact RG hk m c aj fun i h1 h2=>hw i h1 aj
theorem HY{α:Type}{f:Nat->α}{n:Nat}{W D:Nat->Prop}(hk:∀k,k<n->¬W k->f (k+1)=f k){c c':Nat}(h:Cut n W D c)(h':Cut n W D c'):f c=f c':=by
 have key:∀{a b:Nat},Cut n W D a->Cut n W D b->a<=b->f b=f a:=by intro a b ha hb GL;obtain⟨m,rfl⟩:∃m,b=a+m:=⟨b - a,by omega⟩;refine RG hk m a hb.1 fun i h1 h2 hw=>?_;have iK:i<n:=Nat.lt_of_lt_of_le h2 hb.1;have:=(ha.2 i iK hw).1<|(hb.2 i iK hw).2 h2;omega
 rcases Nat.le_total c c' with q|q
 ·exact(key h h' q).symm
 ·exact key h' h q
theorem yR(x:Text P Ye ops nt H N T Rd Wr):∀{i j:Nat},i<=j->j<=ops.size->N i<=N j:=by
 intro i j mA hj;obtain⟨m,rfl⟩:∃m,j=i+m:=⟨j - i,by omega⟩;clear mA;induction m with
 |zero=>exact Nat.le_refl _
 |succ m ih=>exact Nat.le_trans (ih aj)<|x.up (i+m) aj
structure Inv (B:aJ) (ops:Array Oper) (nt:Nat) (H:Nat->Tr ae) (N:Nat->Nat) (T:Nat->Tr AV) (Wr:Nat->Nat->Prop) (uZ:aw) (J4:World) (J5:Act) (listed:Array Bool) (a:Act) (w:World) (h:Tr ae) (t:Tr AV) (ρ:aw):Prop where
 rel:Rel B ρ h w
 tr:TR ρ nt t a.tmps
 le:uZ.le ρ
 new:∀m,m<top->ρ m≠uZ m->∃i,i<ops.size/\jV listed i/\N i<=m/\m<N (i+1)
 heap:∀m,m<top->∃c,Cut ops.size (fun i=>Wr i m) (jV listed) c/\h.get m=(H c).get m
 Dj:∀d,∃c,Cut ops.size (fun i=>∃o,ops[i]? =some o/\o.dst=some d) (jV listed) c/\t.get d=(T c).get d
 below:cH B J4 w
 defers:a.defers=J5.defers
 closed:∀(j:Nat) (o:Oper) (e:Edge),ops[j]? =some o->jV listed j->e∈o.after->Region.binds .any e=true->jV listed e.on
theorem Fe(hj:j<listed.size)(i:Nat):jV (listed.setIfInBounds j true) i↔i=j\/jV listed i:=by
 unfold jV;simp only[Array.getD_eq_getD_getElem?];by_cases e:i=j
 ·subst e;rw[Array.getElem?_setIfInBounds_self_of_lt hj];simp
 ·rw[Array.getElem?_setIfInBounds_ne<|Ne.symm e];simp[e]
theorem MS(zR:JB ops)(x:Text P Ye ops nt H N T Rd Wr)(hc:fQ P B Ye)(hl:∀t a,Yd<|Ye t a)(iZ:nt<=top){uZ:aw}(hg:gd uZ)(lO:dE (N 0) (N ops.size) uZ){J4:World}{J5:Act}{o:Oper}(hs:listed.size=ops.size){h:Tr ae}(inv:Inv B ops nt H N T Wr uZ J4 J5 listed a w h t ρ)(ho:ops[j]? =some o)(hj:listed.getD j true=false)(U6:∀e∈o.after,Region.binds .any e=true->listed.getD e.on false=true)(b:Frame)(k:List Item)(cs:List Frame)(rest:List Nat):
 ∃a' w' h' t' gG,Inv B ops nt H N T Wr uZ J4 J5 (listed.setIfInBounds j true) a' w' h' t' gG/\Steps P (lone (b.atR a<|.inRegion ops (j::rest)::k) cs w) (lone (b.atR a'<|.inRegion ops rest::k) cs w'):=by
 have zS:j<ops.size:=(Array.getElem?_eq_some_iff.1 ho).1;have Ef:¬jV listed j:=by unfold jV;rw[Array.getD_eq_getD_getElem?,Array.getElem?_eq_getElem aj] at hj ⊢;simp at hj ⊢;exact hj
 have Wk:=Yw zR.Vu (jV listed) inv.closed;have ordered:∀i,i≠j->loose (Region.before ops) i j=false->(jV listed i↔i<j):=by
  intro i mA gF;unfold loose at gF;simp only[Bool.not_eq_false',Bool.or_eq_true] at gF;rcases gF with q|q
  ·obtain⟨h1,h2,_⟩:=Wk i i j (Nat.le_refl _) q;exact⟨fun hd=>absurd (h2 hd) Ef,fun e=>by omega⟩
  ·obtain⟨h1,_,h3⟩:=Wk j j i (Nat.le_refl _) q;exact⟨fun _=>h1,fun _=>h3 fun o' e kJ hm hb=>by rw[ho] at kJ;cases kJ;exact U6 e hm hb⟩
 have aev:∀i,loose (Region.before ops) i j=loose (Region.before ops) j i:=by intro i;unfold loose;rw[Bool.or_comm]
 have cutAt:∀(W:Nat->Prop),(∀i,i<ops.size->W i->i≠j->loose (Region.before ops) i j=false)->Cut ops.size W (jV listed) j:=by
  intro W hW;refine⟨Nat.le_of_lt zS,fun i hi hw=>?_⟩;by_cases e:i=j
  ·subst e;exact⟨fun hd=>absurd hd Ef,fun q=>absurd q<|Nat.lt_irrefl _⟩
  ·exact ordered i e<|hW i hi hw e
 have T9:∀(W:Nat->Prop),(∀i,i<ops.size->W i->i≠j->loose (Region.before ops) i j=false)->Cut ops.size W (jV<|listed.setIfInBounds j true) (j+1):=by
  intro W hW;refine⟨zS,fun i hi hw=>?_⟩;rw[Fe aj];by_cases e:i=j
  ·subst e;exact⟨fun _=>Nat.lt_succ_self _,fun _=>.inl rfl⟩
  ·have:=ordered i e<|hW i hi hw e;constructor
   ·rintro (q|q)
    ·exact absurd q e
    ·have:=this.1 q;omega
   ·intro q;exact .inr<|this.2 aj
 have Ua:∀(W:Nat->Prop) (c:Nat),¬W j->Cut ops.size W (jV listed) c->Cut ops.size W (jV<|listed.setIfInBounds j true) c:=by
  intro W c hW Wl;refine⟨Wl.1,fun i hi hw=>?_⟩;rw[Fe aj];have mA:i≠j:=by intro e;subst e;exact hW hw
  rw[←Wl.2 i hi hw];exact⟨fun q=>q.resolve_left mA,.inr⟩
 have Ub:∀i m,i<ops.size->i≠j->Wr i m->Rd j m->loose (Region.before ops) i j=false:=by
  intro i m hi mA hw hr;cases q:loose (Region.before ops) i j with
  |false=>rfl
  |true=>exact absurd hr<|x.apart i j m hi zS mA q hw
 have alX:∀m,m<N j->m<top:=fun m hm=>Nat.lt_of_lt_of_le hm<|x.top j aj;have afV:∀m,m<top->Rd j m->h.get m=(H j).get m:=by intro m hm hr;obtain⟨c,jK,vT⟩:=inv.heap m hm;rw[vT];exact HY (f:=fun c=>(H c).get m) (fun k hk hw=>x.mL k m hk hw hm) jK<|cutAt _ fun i hi hw mA=>Ub i m hi mA hw hr
 have afW:∀d∈o.looksAt ops,(T j).get d=t.get d:=by
  intro d hd;obtain⟨c,jK,vT⟩:=inv.Dj d;rw[vT];refine HY (f:=fun c=>(T c).get d) (fun k hk hw=>?_) (cutAt _ ?_) jK
  ·have dz:ops[k]? =some ops[k]:=Array.getElem?_eq_getElem hk;exact x.slot k _ d dz fun e=>hw ⟨_,dz,e⟩
  ·rintro i hi ⟨y,hy,GR⟩ mA;exact zR.Dj i j y o d mA hy ho GR<|.inl hd
 obtain⟨t1,c1,c2,c3,c4⟩:=x.again j o ho h afV;obtain⟨v,v1,v2⟩:=RF afW c1;obtain⟨u1,PZ⟩:∃u1,jk nt t o.dst v=some u1:=by
  rcases CF v1 with⟨e,_⟩|⟨d,e,hd,_⟩
  ·rw[e];exact⟨t,rfl⟩
  ·rw[e];refine⟨t.put d<|some v,?_⟩;show @Bool.rec (fun _=>Option<|Tr AV) none (some<|t.put d<|some v) (Nat.blt d nt)=_;rw[yG,if_pos hd]
 have xG:=v2 u1 PZ;have hNj:N j<=N (j+1):=x.up j zS;have bM:dE (N j) (N<|j+1) ρ:=by
  intro m h1 h2 jZ;have e0:uZ m=none:=lO m (Nat.le_trans (yR x (Nat.zero_le j) aj) h1) (Nat.lt_of_lt_of_le h2<|yR x zS<|Nat.le_refl _) jZ;by_cases e:ρ m=uZ m
  ·rw[e];exact e0
  ·exfalso;obtain⟨i,hi,P0,p1,p2⟩:=inv.new m jZ e;have mA:i≠j:=by intro q;subst q;exact Ef P0
   rcases Nat.lt_or_ge i j with q|q
   ·have:=yR x (show i+1<=j from q) aj;omega
   ·have:=yR x (show j+1<=i from by omega) aj;omega
 have aD:At B ρ ⟨h,N j,N j,[],[]⟩ nt t w a:=⟨inv.tr,inv.rel,hg.mono inv.le,iZ,⟨Nat.le_refl _,x.top j aj⟩⟩;obtain⟨σ,a',w',g1,g2,g3,g4,g5⟩:=Ta hc hl ho aD (by rw[c2];exact bM) xG b k cs rest;rw[c2] at g1;refine⟨a',w',t1.h,u1,σ,⟨g2.rel,g2.tr,aw.le_trans inv.le g1.le,?_,?_,?_,inv.below.trans g4,g3.trans inv.defers,?_⟩,g5⟩
 ·intro m jZ hm;by_cases e:ρ m=uZ m
  ·by_cases q:N j<=m/\m<N (j+1)
   ·exact⟨j,zS,(Fe aj j).2<|.inl rfl,q.1,q.2⟩
   ·exact absurd ((g1.out m jZ q).trans e) hm
  ·obtain⟨i,hi,P0,p⟩:=inv.new m jZ e;exact⟨i,hi,(Fe aj i).2<|.inr P0,p⟩
 ·intro m hm;by_cases q:Wr j m
  ·refine⟨j+1,T9 _ fun i hi hw mA=>?_,c3 m q⟩;obtain⟨w1,w2⟩:=x.wrote j m zS q;by_cases e:m<N j
   ·exact Ub i m hi mA hw<|w2 e
   ·obtain⟨y1,y2⟩:=x.wrote i m hi hw;have him:m<N i:=by
     rcases Nat.lt_or_ge i j with r|r
     ·have:=yR x (show i+1<=j from r) aj;omega
     ·have:=yR x (show j+1<=i from by omega) aj;omega
    cases x8:loose (Region.before ops) i j with
    |false=>rfl
    |true=>rw[aev] at x8;exact absurd (y2 him)<|x.apart j i m zS hi (Ne.symm mA) x8 q
  ·obtain⟨c,jK,vT⟩:=inv.heap m hm;exact⟨c,Ua _ c q jK,(c4 m q hm).trans vT⟩
 ·intro d;by_cases q:o.dst=some d
  ·refine⟨j+1,T9 _ fun i hi hw mA=>?_,?_⟩
   ·obtain⟨y,hy,GR⟩:=hw;exact zR.Dj i j y o d mA hy ho GR<|.inr q
   ·rcases CF v1 with⟨e,_⟩|⟨d1,e,hd,e3⟩
    ·rw[e] at q;cases q
    ·rw[q] at e;cases e;rcases CF PZ with⟨e,_⟩|⟨d2,e,zT,e4⟩
     ·rw[e] at q;cases q
     ·rw[q] at e;cases e;rw[e3,e4,Tr.lM _ _ _ _<|Nat.lt_of_lt_of_le hd iZ,Tr.lM _ _ _ _<|Nat.lt_of_lt_of_le hd iZ,if_pos rfl,if_pos rfl]
  ·obtain⟨c,jK,vT⟩:=inv.Dj d;refine⟨c,Ua _ c (fun hw=>?_) jK,?_⟩
   ·obtain⟨y,hy,GR⟩:=hw;rw[ho] at hy;cases hy;exact q GR
   ·rw[←vT];rcases CF PZ with⟨_,e⟩|⟨d2,e,zT,e4⟩
    ·rw[e]
    ·rw[e4,Tr.lM _ _ _ _<|Nat.lt_of_lt_of_le zT iZ,if_neg (by intro r;subst r;exact q e)]
 ·intro j' o' e kJ hd hm hb;rw[Fe aj] at hd ⊢;rcases hd with rfl|hd
  ·rw[ho] at kJ;cases kJ;exact .inr<|U6 e hm hb
  ·exact .inr<|inv.closed j' o' e kJ hd hm hb
theorem Mb(n i:Nat):¬jV (Array.replicate n false) i:=by
 unfold jV;rw[Array.getD_eq_getD_getElem?];by_cases h:i<n
 ·simp[h]
 ·simp[h]
theorem Y6(bV:P.follows .mixedOrders=true)(zR:JB ops)(hc:fQ P B Ye)(hl:∀t a,Yd<|Ye t a){id:Nat}{t1:Tr AV}{s s1:AS}(aD:At B ρ s nt t w a)(hf:dE s.nx s1.nx ρ)(h:pW P Ye nt ops t s= .ok t1 s1)(b:Frame)(k:List Item)(cs:List Frame):
 DP P B ρ s s1 nt t1 w a (lone (b.atR a<|.code (.region id ops true)::k) cs w) (fun a' w'=>lone (b.atR a' k) cs w'):=by
 obtain⟨⟨t',ms⟩,s',h1,h2⟩:=M.aP (show((mY P Ye nt ops ops.toList 0 t).bind fun x=>aF (qj (Region.before ops) x.2 x.2) <| M.pure x.1) s= .ok t1 s1 from h);obtain⟨h3,h4⟩:=cW h2;obtain⟨rfl,rfl⟩:=bD h4;obtain⟨f',H,N,T,Rd,Wr,a1,a2,a3,a4,a5,a6,x⟩:=acK hl aD.nt aD.cJ h1 h3;have lO:dE (N 0) (N ops.size) ρ:=by rw[a2,a5];exact hf
 let w1:World:={w with drawn:=w.drawn+1};have ahP:Rel B ρ s.h w1:=aD.rel.DO<|gT.drew w;have ahQ:Inv B ops nt H N T Wr ρ w a (Array.replicate ops.size false) a w1 s.h t ρ:=by refine⟨ahP,aD.tr,aw.le_refl ρ,fun m _ hm=>absurd rfl hm,fun m _=>⟨0,⟨Nat.zero_le _,fun i _ _=>⟨fun q=>absurd q<|Mb _ _,fun q=>absurd q<|Nat.not_lt_zero _⟩⟩,by rw[a1]⟩,fun d=>⟨0,⟨Nat.zero_le _,fun i _ _=>⟨fun q=>absurd q<|Mb _ _,fun q=>absurd q<|Nat.not_lt_zero _⟩⟩,by rw[a3]⟩,(gT.drew w).below aD.rel.size,rfl,fun j o e _ q=>absurd q<|Mb _ _⟩
 obtain⟨l',a',w',z1,z2,⟨h',t',gG,inv⟩,z3⟩:=aak (P:=P) zR.Vu b k cs (fun listed a2 w2=>∃h' t' gG,Inv B ops nt H N T Wr ρ w a listed a2 w2 h' t' gG)
  (fun listed a2 w2 i o rest q1 ⟨h',t',gG,inv⟩ q3 q4 q5=>by obtain⟨a3,w3,h3,t3,ρ3,i3,st⟩:=MS zR x hc hl aD.nt aD.g lO q1 inv q3 q4 q5 b k cs rest;exact⟨a3,w3,⟨h3,t3,ρ3,i3⟩,st⟩)
  ops.size (w.tape w.drawn<|.order b.fn id) (Array.replicate ops.size false) a w1 iJ (abr _) ⟨s.h,t,ρ,ahQ⟩
 have all:∀(W:Nat->Prop),Cut ops.size W (jV l') ops.size:=fun W=>⟨Nat.le_refl _,fun i hi _=>⟨fun _=>hi,fun _=>z2 i hi⟩⟩;have ahR:∀m,m<top->s1.h.get m=h'.get m:=by intro m hm;obtain⟨c,c1,c2⟩:=inv.heap m hm;rw[c2, ←a4];exact HY (f:=fun c=>(H c).get m) (fun k hk hw=>x.mL k m hk hw hm) (all _) c1
 have ahS:∀d,t'.get d=(T ops.size).get d:=by intro d;obtain⟨c,c1,c2⟩:=inv.Dj d;rw[c2];refine HY (f:=fun c=>(T c).get d) (fun k hk hw=>?_) c1<|all _;have dz:ops[k]? =some ops[k]:=Array.getElem?_eq_getElem hk;exact x.slot k _ d dz fun e=>hw ⟨_,dz,e⟩
 refine⟨gG,a',w',⟨inv.le,fun m jZ hm=>?_⟩,⟨?_,inv.rel.congr ahR,aD.g.mono inv.le,aD.nt,f'⟩,inv.defers,inv.below,?_⟩
 ·by_cases e:gG m=ρ m
  ·exact e
  ·exfalso;obtain⟨i,hi,_,p1,p2⟩:=inv.new m jZ e;have q1:=yR x (Nat.zero_le i) aj;have q2:=yR x (show i+1<=ops.size from hi)<|Nat.le_refl _;exact hm ⟨by omega,by omega⟩
 ·rw[←a6];exact⟨inv.tr.1,fun i x hx=>inv.tr.2 i x (by rw[ahS i];exact hx)⟩
 ·refine .head stepR_region_draw ?_;simp only[Region.schedule,bV,Bool.true_or,if_true];exact z3
end
end Go.Rn
namespace Go.Rn
open Go.RowKit
variable {l bl N:Nat} {σ:aw} {r:Loop}
def Fy(ρ:aw):Option Nat->Option Nat->Prop
 |none,none=>True
 |some l,some b=>∃N,ρ l=some (b,N)
 |_,_=>False
theorem Fy.mono{ρ:aw}(h:ρ.le σ):∀{x y:Option Nat},Fy ρ x y->Fy σ x y
 |none,none,k=>k
 |some _,some _,⟨N,e⟩=>⟨N,h _ _ e⟩
 |none,some _,k=>k
 |some _,none,k=>k
def vy(ρ:aw):List Nat->List Deferred->Prop
 |[],l=>l=[]
 |d::ds,l=>∃b N r,l={target:=.collected b,args:= #[]}::r/\ρ d=some (b,N)/\vy ρ ds r
theorem vy.mono{ρ:aw}(h:ρ.le σ):∀{x:List Nat} {y:List Deferred},vy ρ x y->vy σ x y
 |[],_,k=>k
 |_::_,_,⟨b,N,r,e,a,d⟩=>⟨b,N,r,e,h _ _ a,d.mono h⟩
def br.fr:br->AF
 | .go fr=>fr
 | .leave fr _=>fr
def Leaves(j:Option Code)(todo:List Item):Prop:=
 match j with
 |none=>todo=[]
 |some .ret=>∃k,todo= .code .ret::k
 |some (.exit id)=>∃k,todo= .code (.exit id)::k/\exitTo id k=none
 |some (.goto l)=>∃k,todo= .code (.goto l)::k/\gotoIn l k=none
 |_=>False
def br.ok:br->Prop
 | .go _=>True
 | .leave fr j=>Leaves j fr.todo
theorem Leaves.code{j:Option Code}{todo:List Item}(h:Leaves j todo):∀c,j=some c->iu c:=by intro c e;subst e;cases c<;>first|trivial|cases h
structure Fr (ρ:aw) (af:AF) (b:Frame) (a:Act):Prop where
 fn:b.fn=af.fn
 kind:b.kind= .normal
 round:Fy ρ af.round b.roundOf
 defs:vy ρ af.defers a.defers
 ok:jC af.todo
def nG(P:Program)(B:aJ)(ρ:aw)(s s1:AS)(w:World)(af:AF)(b:Frame)(cs:List Frame)(m:Machine)(x:br):Prop:=∃σ a' w',Ext s.nx s1.nx ρ σ/\At B σ s1 af.nt x.fr.tmps w' a'/\vy σ x.fr.defers a'.defers/\cH B w w'/\(x.fr.fn=af.fn/\x.fr.nt=af.nt/\x.fr.round=af.round)/\jC x.fr.todo/\x.ok/\Steps P m (lone (b.atR a' x.fr.todo) cs w')
section
variable {P:Program} {B:aJ} {ρ:aw} {w:World} {s s1:AS} {Ye:aI} {b:Frame} {a:Act} {cs:List Frame}
theorem Cs(hb:w.heap[l]? =some (.loop r)):(Instr.getLoop l).run P w= .ok r w:=by simp[Instr.getLoop,getObj,Sem.run,hb]
theorem Ln{o:Obj}(hb:w.heap[l]? =some (.loop r)):(setObj l o).run P w= .ok () {w with heap:=w.heap.setIfInBounds l o}:=by simp[setObj,Sem.run,hb]
theorem Cv{o:ae}(h:getLoop l s= .ok o s1):bp l s= .ok o s1/\∃st bL fn t nt ps aa bb d,o= .loop st bL fn t nt ps aa bb d:=by
 unfold getLoop at h;obtain⟨o',s2,h1,h2⟩:=M.aP h;split at h2
 ·obtain⟨rfl,rfl⟩:=bD h2;exact⟨h1,_,_,_,_,_,_,_,_,_,rfl⟩
 ·cases h2
theorem MT{st aZ:LoopState}{bL FW:Option Code}{fn nt d:Nat}{t:Tr AV}{ps:List Tmp}{aa bb:Code}{u:Unit}{s2:AS}(fi:bx s)(r:Rel B ρ s.h w)(hg:bp l s= .ok (.loop st bL fn t nt ps aa bb d) s2)(hl:ρ l=some (bl,N))(dz:∀c,FW=some c->iu c)(h:bI l (some<|.loop aZ FW fn t nt ps aa bb d) s2= .ok u s1):
 s1.nx=s.nx/\∃q:Loop,w.heap[bl]? =some (.loop q)/\q.state=st/\q.pending=bL/\q.fn=fn/\TR ρ nt t q.tmps/\q.params=ps.toArray/\q.assign=aa/\q.body=bb/\nt<=top/\Fu bL aa bb/\Rel B ρ s1.h {w with heap:=w.heap.setIfInBounds bl<|.loop {q with state:=aZ,pending:=FW}}/\cH B w {w with heap:=w.heap.setIfInBounds bl<|.loop {q with state:=aZ,pending:=FW}}:=by
 obtain⟨hx,ki,hh,cM⟩:=fY hg;have ht:l<top:=Nat.lt_of_lt_of_le hx fi.nx;obtain⟨o',hb,hO,hB⟩:=r.block ht ki hl;obtain⟨ta,db,M,rfl,yb,iZ,hd,gF⟩:=hO;obtain⟨_,_,_,e1,e2⟩:=kx h;obtain⟨g3,g4⟩:=Cu (o':=.loop {state:=aZ,pending:=FW,fn:=fn,tmps:=ta,params:=ps.toArray,assign:=aa,body:=bb,defers:=db}) hb;refine⟨by rw[e2,cM],_,hb,rfl,rfl,rfl,yb,rfl,rfl,rfl,iZ,gF,?_,g3.below<|hB rfl⟩;rw[e1,hh];exact r.put ht ki rfl rfl hl rfl g3 g4 ⟨ta,db,M,rfl,yb,iZ,hd,dz,gF.assign,gF.body⟩
theorem Ra{p:Option Code}(fi:bx s)(r:Rel B ρ s.h w)(hl:ρ l=some (bl,N))(h:lN l s= .ok p s1):
 s1.nx=s.nx/\(∀c,p=some c->iu c)/\∃w',(Instr.endLoop bl).run P w= .ok p w'/\Rel B ρ s1.h w'/\cH B w w':=by
 unfold lN at h;obtain⟨o,s2,h1,h2⟩:=M.aP h;obtain⟨h3,st,bL,fn,t,nt,ps,aa,bb,d,rfl⟩:=Cv h1;obtain⟨h4,h5⟩:=cW h2;obtain⟨u,s3,h6,h7⟩:=M.aP h5;obtain⟨rfl,rfl⟩:=bD h7;have ki:=(fY h3);have dz:∀c,p=some c->iu c:=by obtain⟨o',hb,hO,_⟩:=r.block (Nat.lt_of_lt_of_le ki.1 fi.nx) ki.2.1 hl;obtain⟨_,_,_,_,_,_,_,gF⟩:=hO;exact gF.bL
 obtain⟨e1,q,e2,e3,e4,_,_,_,_,_,_,_,e5,e6⟩:=MT fi r h3 hl dz h6;refine⟨e1,dz,_,?_,e5,e6⟩;have cn:(q.state == LoopState.busy)=false:=by rw[e3];cases st<;>first|rfl|cases h4
 simp only[Instr.endLoop,Sem.run_bind,Cs e2,Result.andThen_ok,cn,Bool.false_eq_true,if_false,Ln e2,Sem.run_pure,e4]
theorem QT{g:Operand}{ps:Array Tmp}{assign body:Code}{k:List Item}{mark:List Deferred}{J6:World}{R:Value->World->Prop}(he:(Instr.enterLoop b.fn a.tmps ps assign body b.roundOf).run P w= .ok (l,mark) J6)(h:jo P ((do let d ←Deferred.ofValue (a.eval g) #[.func (.yield l) #[] #[]];invoke d.target d.args:Sem Next).run P J6) R):
 ∃v w',R v w'/\Steps P (lone (b.atR a<|.code (.rangeFunc g ps assign body)::k) cs w) (lone (b.atR {a with defers:=mark++a.defers}<|.endRangeFunc l::k) cs w'):=by
 have KD:=Frame.eval_atR b {a with defers:=mark++a.defers}<|.inRangeFunc l::k;simp only[Frame.atR] at KD;have kD:(do let d ←resolve ({tmps:=a.tmps,defers:=mark++a.defers}:Act).eval {callee:=.value g,args:= #[.const<|.func (.yield l) #[] #[]],argTypes:= #[]} 0;invoke d.target d.args:Sem Next)=
  (do let d ←Deferred.ofValue (a.eval g) #[.func (.yield l) #[] #[]];invoke d.target d.args:Sem Next):=by
  have e1:({tmps:=a.tmps,defers:=mark++a.defers}:Act).eval g=a.eval g:=by cases g<;>rfl
  have e2:(#[Operand.const<|Value.func (Fn.yield l) #[] #[]]:Array Operand).map ({tmps:=a.tmps,defers:=mark++a.defers}:Act).eval= #[Value.func (Fn.yield l) #[] #[]]:=by simp[Act.eval]
  simp only[resolve,e1,e2]
 generalize hr:(do let d ←Deferred.ofValue (a.eval g) #[.func (.yield l) #[] #[]];invoke d.target d.args:Sem Next).run P J6=res at h;rw[←kD] at hr;have JF:stepG P true {frame:=b.atR a<|.code (.rangeFunc g ps assign body)::k,callers:=cs,status:=.running,dying:=none} w=
  GStep.after (seen P b.fn ((Instr.enterLoop b.fn a.tmps ps assign body b.roundOf).runT P w #[]).2) (stepG.apply P true (b.atR {a with defers:=mark++a.defers}<|.inRangeFunc l::k) cs none (do let d ←resolve ({tmps:=a.tmps,defers:=mark++a.defers}:Act).eval {callee:=.value g,args:= #[.const<|.func (.yield l) #[] #[]],argTypes:= #[]} 0;invoke d.target d.args) J6):=by
  simp only[stepG,stepG.exec,Frame.atR,Sem.runT_eq,he,KD]
 unfold jo at h;split at h
 ·rename_i v w';refine⟨v,w',h,.one<|step_lone_go ?_⟩;rw[JF,GStep.bare_after, ←finish_atR_inRangeFunc l v];simp[stepG.apply,hr]
 ·rename_i w';refine⟨undef,w',h,.one<|step_lone_go ?_⟩;rw[JF,GStep.bare_after, ←finish_atR_inRangeFunc l undef];simp[stepG.apply,hr]
 ·rename_i f args w';obtain⟨e,ni,fr,⟨v,rfl,hR⟩,A8,cm,NW⟩:=h<|b.atR {a with defers:=mark++a.defers} (.inRangeFunc l::k)::cs;have A9:step P (lone (b.atR a<|.code (.rangeFunc g ps assign body)::k) cs w)= .next (lone (Frame.enter P f args .normal) (b.atR {a with defers:=mark++a.defers} (.inRangeFunc l::k)::cs) w'):=step_lone_go (by rw[JF,GStep.bare_after];simp[stepG.apply,hr,Frame.atR])
  refine⟨v,ni,hR,.head A9<|Steps.trans A8<|.one ?_⟩;rw[←finish_atR_inRangeFunc l v];exact step_leave_returned NW
 ·rename_i l' f tmps acL afX w';obtain⟨v,ni,hR,A8⟩:=h (b.atR {a with defers:=mark++a.defers}<|.inRangeFunc l::k) cs;have A9:step P (lone (b.atR a<|.code (.rangeFunc g ps assign body)::k) cs w)= .next (lone (Frame.round l' f tmps acL afX .normal) (b.atR {a with defers:=mark++a.defers} (.inRangeFunc l::k)::cs) w'):=step_lone_go (by rw[JF,GStep.bare_after];simp[stepG.apply,hr,Frame.atR])
  refine⟨v,ni,hR,.head A9 ?_⟩;rw[←finish_atR_inRangeFunc l v];exact A8
 ·cases h
end
end Go.Rn
namespace Go.Rn
open Go.RowKit
variable {t:Tr AV} {ps:Array Tmp} {k:List Item} {body assign:Code} {af:AF} {x:br} {nt fn:Nat}
section
variable {P:Program} {B:aJ} {ρ:aw} {w:World} {s s1:AS} {Ye:aI} {b:Frame} {a:Act} {cs:List Frame}
theorem Cy(bM:Fr ρ af b a)(aD:At B ρ s af.nt af.tmps w a)(h1:x.fr.tmps=af.tmps)(h2:x.fr.defers=af.defers)(h3:x.fr.fn=af.fn/\x.fr.nt=af.nt/\x.fr.round=af.round)(h4:jC x.fr.todo)(h5:x.ok)(h6:Steps P (lone (b.atR a af.todo) cs w)<|lone (b.atR a x.fr.todo) cs w):nG P B ρ s s w af b cs (lone (b.atR a af.todo) cs w) x:=⟨ρ,a,w,Ext.refl _ _ _,by rw[h1];exact aD,by rw[h2];exact bM.defs,cH.refl _ _,h3,h4,h5,h6⟩
theorem Sn{fr:AF}(bM:Fr ρ af b a)(hx:fr={af with tmps:=t,todo:=k})(hk:jC k)(h:DP P B ρ s s1 af.nt t w a (lone (b.atR a af.todo) cs w) fun a' w'=>lone (b.atR a' k) cs w'):nG P B ρ s s1 w af b cs (lone (b.atR a af.todo) cs w)<|.go fr:=by subst hx;obtain⟨σ,a',w',e1,e2,e3,e4,e5⟩:=h;exact⟨σ,a',w',e1,e2,by rw[e3];exact bM.defs.mono e1.le,e4,⟨rfl,rfl,rfl⟩,hk,trivial,e5⟩
theorem acM(aD:At B ρ s nt t w a)(h1:ρ s.nx=none)(h2:ρ (s.nx+1)=none)(l1:s.nx<top)(l2:s.nx+1<top)(gF:Fu none assign body):
 ∃σ,Ext s.nx (s.nx+2) ρ σ/\σ s.nx=some (w.heap.size,0)/\σ (s.nx+1)=some (w.heap.size+1,0)/\
  (Instr.enterLoop fn a.tmps ps assign body none).run P w= .ok (w.heap.size+1,[{target:=.collected w.heap.size,args:= #[]}]) {w with heap:=(w.heap.push<|.deferred<|some []).push<|.loop {state:=.ready,pending:=none,fn,tmps:=a.tmps,params:=ps,assign,body,defers:=w.heap.size}}/\
  Rel B σ ((s.h.put s.nx<|some .defs).put (s.nx+1)<|some<|.loop .ready none fn t nt ps.toList assign body s.nx) {w with heap:=(w.heap.push<|.deferred<|some []).push<|.loop {state:=.ready,pending:=none,fn,tmps:=a.tmps,params:=ps,assign,body,defers:=w.heap.size}}/\
  cH B w {w with heap:=(w.heap.push<|.deferred<|some []).push<|.loop {state:=.ready,pending:=none,fn,tmps:=a.tmps,params:=ps,assign,body,defers:=w.heap.size}}:=by
 have r1:=aD.rel.new (n:=s.nx) (o:=.defs) (o':=.deferred<|some []) (N:=0) l1 h1 rfl rfl;have oK:eN ρ s.nx (w.heap.size,0) (s.nx+1)=none:=by rw[gJ ρ _ aj];exact h2
 have Gb:ρ.le<|eN ρ s.nx (w.heap.size,0):=oj h1;have J7:(eN ρ s.nx (w.heap.size,0)).le<|eN (eN ρ s.nx (w.heap.size,0)) (s.nx+1) (w.heap.size+1,0):=oj oK;have ll:({w with heap:=w.heap.push<|.deferred<|some []}:World).heap.size=w.heap.size+1:=by simp
 have r2:=r1.new (n:=s.nx+1) (o:=.loop .ready none fn t nt ps.toList assign body s.nx) (o':=.loop {state:=.ready,pending:=none,fn,tmps:=a.tmps,params:=ps,assign,body,defers:=w.heap.size}) (N:=0) l2 oK rfl (by rw[ll];exact⟨a.tmps,w.heap.size,0,by simp,(aD.tr.mono Gb).mono J7,aD.nt,J7 _ _<|iQ _ _ _,gF⟩);rw[ll] at r2;refine⟨_,⟨aw.le_trans Gb J7,fun k _ hk=>?_⟩,J7 _ _<|iQ _ _ _,iQ _ _ _,?_,r2,?_⟩
 ·rw[gJ _ _ aj,gJ _ _ aj]
 ·simp only[Instr.enterLoop,Sem.run_bind,newObj,Sem.run,Result.andThen_ok,Sem.run_pure];simp
 ·exact((gT.alloc w _).trans<|gT.alloc _ _).below aD.rel.size
theorem acN{l0 bl N:Nat}{st:LoopState}{bL:Option Code}{f0 Eg d0:Nat}{t0:Tr AV}{Eh:List Tmp}{a0 b0:Code}{s2:AS}(aD:At B ρ s nt t w a)(h1:ρ s.nx=none)(l1:s.nx<top)(gF:Fu none assign body)(hg:bp l0 s= .ok (.loop st bL f0 t0 Eg Eh a0 b0 d0) s2)(hl:ρ l0=some (bl,N)):
 ∃σ w',Ext s.nx (s.nx+1) ρ σ/\(∃bb M,σ s.nx=some (bb,M)/\(Instr.enterLoop fn a.tmps ps assign body<|some bl).run P w= .ok (bb,[]) w')/\Rel B σ (s.h.put s.nx<|some<|.loop .ready none fn t nt ps.toList assign body d0) w'/\cH B w w':=by
 obtain⟨hx,ki,hh,cM⟩:=fY hg;have ht:l0<top:=Nat.lt_of_lt_of_le hx aD.cJ.nx;obtain⟨o',hb,hO,hB⟩:=aD.rel.block ht ki hl;obtain⟨ta,db,M,rfl,yb,iZ,hd,_⟩:=hO;have Gb:ρ.le<|eN ρ s.nx (w.heap.size,0):=oj h1;have r1:=aD.rel.new (n:=s.nx) (o:=.loop .ready none fn t nt ps.toList assign body d0) (o':=.loop {state:=.ready,pending:=none,fn,tmps:=a.tmps,params:=ps,assign,body,defers:=db}) (N:=0) l1 h1 rfl ⟨a.tmps,db,M,by simp,aD.tr.mono Gb,aD.nt,Gb _ _ hd,gF⟩;refine⟨_,_,Ext.mQ h1,⟨w.heap.size,0,iQ _ _ _,?_⟩,r1,(gT.alloc w _).below aD.rel.size⟩;simp only[Instr.enterLoop,Sem.run_bind,Cs hb,Result.andThen_ok,Sem.run_pure,newObj,Sem.run]
theorem QU{p:Option Code}(hp:∀c,p=some c->iu c)(hk:jC k):jC<|andThen p k:=by
 cases p with
 |none=>exact hk
 |some c=>exact .cons (hp c rfl) hk
theorem RH(p:Option Code)(k:List Item):(p.map Item.code).toList++k=andThen p k:=by cases p<;>rfl
theorem aam{f:Operand}(hc:fQ P B Ye)(hl:∀t a,Yd<|Ye t a)(bM:Fr ρ af b a)(aD:At B ρ s af.nt af.tmps w a)(hf:dE s.nx s1.nx ρ)(rk:af.todo= .code (.rangeFunc f ps assign body)::k)(h:uJ f ps.toList assign body Ye af.fn af.tmps af.nt af.defers af.round k s= .ok x s1):nG P B ρ s s1 w af b cs (lone (b.atR a af.todo) cs w) x:=by
 have Ds:iu assign/\iu body:=by have:=bM.ok;rw[rk] at this;exact this.head
 have gF:Fu none assign body:=⟨(fun c e=>by cases e),Ds.1,Ds.2⟩;have hk:jC k:=by have:=bM.ok;rw[rk] at this;exact this.tail
 unfold uJ at h;cases hr:af.round with
 |none=>
  rw[hr] at h;have nw:=bM.round;rw[hr] at nw;have GS:b.roundOf=none:=by
   cases e:b.roundOf with
   |none=>rfl
   |some _=>rw[e] at nw;cases nw
  obtain⟨df,s2,h1,h⟩:=M.aP h;obtain⟨l,s3,h2,h⟩:=M.aP h;obtain⟨g,h3,h⟩:=bt h;obtain⟨y,s4,h4,h⟩:=M.aP h;obtain⟨p,s5,h5,h⟩:=M.aP h;obtain⟨rfl,rfl⟩:=bD h;obtain⟨t1,rfl,rfl⟩:=uB h1;obtain⟨t2,rfl,rfl⟩:=uB h2;have lG:bx {s with h:=(s.h.put s.nx<|some .defs).put (s.nx+1)<|some<|.loop .ready none af.fn af.tmps af.nt ps.toList assign body s.nx,nx:=s.nx+1+1}:=⟨by have:=aD.cJ.mark;show s.mark<=s.nx+1+1;omega,t2⟩;have GU:=(Yd.mX hl _ _).le lG h4;have mU:=(Yd.mX hl _ _).cJ lG h4;have P1:=(Yd.lN _).le mU h5;have Pc:s.nx+2<=s4.nx:=GU;obtain⟨σ,e1,e2,e3,e4,e5,e6⟩:=acM (P:=P) (fn:=af.fn) (ps:=ps) aD (hf _ (Nat.le_refl _) aj aj) (hf _ aj aj aj) t1 t2 gF;have x9:VR σ g<|a.eval f:=(Fl aD.tr aD.g h3).mono e1.le;have lO:dE (s.nx+2) s4.nx σ:=(hf.sub (Nat.le_refl _) P1).next aj e1
  have OI:=Si (P:=P) hc (aD.g.mono e1.le) lG e5 lO x9 (args:=[.yield<|s.nx+1]) (vs:= #[.func (.yield<|w.heap.size+1) #[] #[]]) (by simp only[ay,VR];exact⟨_,_,rfl,⟨_,_,e3,rfl⟩,rfl⟩) h4;have Gc:=(show(Instr.enterLoop b.fn a.tmps ps assign body b.roundOf).run P w=(Instr.enterLoop af.fn a.tmps ps assign body none).run P w by rw[bM.fn,GS]).trans e4;obtain⟨v,w',⟨τ,g1,g2,g3,g4⟩,st⟩:=QT (cs:=cs) (k:=k) Gc OI;obtain⟨q1,q2,w5,q3,q4,q5⟩:=Ra (P:=P) mU g3 (g1.le _ _ e3) h5;have ext:Ext s.nx s4.nx ρ τ:=e1.trans aj Pc g1;refine⟨τ,{a with defers:=[{target:=.collected w.heap.size,args:= #[]}]++a.defers},w5,by rw[q1];exact ext,⟨aD.tr.mono ext.le,q4,aD.g.mono ext.le,aD.nt,(Yd.lN _).cJ mU h5⟩,?_,(e6.trans g4).trans q5,⟨rfl,rfl,hr.symm⟩,QU q2 hk,trivial,?_⟩
  ·exact⟨w.heap.size,0,a.defers,rfl,g1.le _ _ e2,bM.defs.mono ext.le⟩
  ·rw[rk];refine Steps.trans st<|.one ?_;rw[stepR_endRangeFunc q3,RH];rfl
 |some l0=>
  rw[hr] at h;have nw:=bM.round;rw[hr] at nw;obtain⟨bl,GS,N0,P2⟩:∃bl,b.roundOf=some bl/\∃N,ρ l0=some (bl,N):=by
   cases e:b.roundOf with
   |none=>rw[e] at nw;cases nw
   |some bl=>rw[e] at nw;exact⟨bl,rfl,nw⟩
  obtain⟨ob,s2,h1,h⟩:=M.aP h;obtain⟨xX,st0,alY,f0,t0,Eg,Eh,a0,b0,d0,rfl⟩:=Cv h1;obtain⟨l,s3,h2,h⟩:=M.aP h;obtain⟨g,h3,h⟩:=bt h;obtain⟨y,s4,h4,h⟩:=M.aP h;obtain⟨p,s5,h5,h⟩:=M.aP h;obtain⟨rfl,rfl⟩:=bD h;obtain⟨hx,ki,hh,cM⟩:=fY xX;have eF:bx s2:=(Yd.bp _).cJ aD.cJ xX;obtain⟨t2,rfl,rfl⟩:=uB h2;have lG:bx {s2 with h:=s2.h.put s2.nx<|some<|.loop .ready none af.fn af.tmps af.nt ps.toList assign body d0,nx:=s2.nx+1}:=⟨by have:=eF.mark;show s2.mark<=s2.nx+1;omega,t2⟩;have GU:=(Yd.mX hl _ _).le lG h4;have mU:=(Yd.mX hl _ _).cJ lG h4;have P1:=(Yd.lN _).le mU h5;have Pc:s2.nx+1<=s4.nx:=GU;obtain⟨σ,w2,e1,⟨bb,M2,e3,e4⟩,e5,e6⟩:=acN (P:=P) (fn:=af.fn) (ps:=ps) aD (hf _ (Nat.le_refl _) aj aj) (by rw[←cM];omega) gF xX P2;rw[←hh, ←cM] at e5;rw[←cM] at e1 e3;have x9:VR σ g<|a.eval f:=(Fl aD.tr aD.g h3).mono e1.le;have lO:dE (s2.nx+1) s4.nx σ:=(show dE s2.nx s4.nx ρ by rw[cM];exact hf.sub (Nat.le_refl _) P1).next aj e1
  have OI:=Si (P:=P) hc (aD.g.mono e1.le) lG e5 lO x9 (args:=[.yield s2.nx]) (vs:= #[.func (.yield bb) #[] #[]]) (by simp only[ay,VR];exact⟨_,_,rfl,⟨_,_,e3,rfl⟩,rfl⟩) h4;have Gc:=(show(Instr.enterLoop b.fn a.tmps ps assign body b.roundOf).run P w=(Instr.enterLoop af.fn a.tmps ps assign body<|some bl).run P w by rw[bM.fn,GS]).trans e4;obtain⟨v,w',⟨τ,g1,g2,g3,g4⟩,st⟩:=QT (cs:=cs) (k:=k) Gc OI;obtain⟨q1,q2,w5,q3,q4,q5⟩:=Ra (P:=P) mU g3 (g1.le _ _ e3) h5;have ext:Ext s.nx s4.nx ρ τ:=by rw[←cM];exact e1.trans aj Pc g1
  refine⟨τ,{a with defers:=[]++a.defers},w5,by rw[q1];exact ext,⟨aD.tr.mono ext.le,q4,aD.g.mono ext.le,aD.nt,(Yd.lN _).cJ mU h5⟩,?_,(e6.trans g4).trans q5,⟨rfl,rfl,hr.symm⟩,QU q2 hk,trivial,?_⟩
  ·exact bM.defs.mono ext.le
  ·rw[rk];refine Steps.trans st<|.one ?_;rw[stepR_endRangeFunc q3,RH];rfl
end
end Go.Rn
namespace Go.Rn
open Go.RowKit
variable {x:br} {s2:AS} {k:List Item} {c:Code} {af:AF}
theorem Yx{P:Program}{b:Frame}{a:Act}{cs:List Frame}{w:World}:step P (lone (b.atR a<|.inScope c::k) cs w)= .next (lone (b.atR a k) cs w):=step_lone_go (by simp[stepG,stepG.exec,Frame.atR])
theorem Y7{P:Program}{b:Frame}{a:Act}{cs:List Frame}{w:World}:step P (lone (b.atR a<|.code (.scope c)::k) cs w)= .next (lone (b.atR a<|.code c:: .inScope c::k) cs w):=step_lone_go (by simp[stepG,stepG.exec,Frame.atR])
section
variable {P:Program} {B:aJ} {ρ:aw} {w:World} {s s1:AS} {Ye:aI} {b:Frame} {a:Act} {cs:List Frame}
theorem aan{l bl N:Nat}{bL:Option Code}{f0 Eg d0:Nat}{t0:Tr AV}{Eh:List Tmp}{a0 b0:Code}{u:Unit}(fi:bx s)(r:Rel B ρ s.h w)(hl:ρ l=some (bl,N))(hg:bp l s= .ok (.loop .ready bL f0 t0 Eg Eh a0 b0 d0) s2)(h:bI l (some<|.loop .busy bL f0 t0 Eg Eh a0 b0 d0) s2= .ok u s1):
 s1.nx=s.nx/\∃w',(Instr.beginRound bl).run P w= .ok () w'/\Rel B ρ s1.h w'/\cH B w w':=by
 have ki:=fY hg;have dz:∀c,bL=some c->iu c:=by obtain⟨o',hb,hO,_⟩:=r.block (Nat.lt_of_lt_of_le ki.1 fi.nx) ki.2.1 hl;obtain⟨_,_,_,_,_,_,_,gF⟩:=hO;exact gF.bL
 obtain⟨e1,q,e2,e3,e4,_,_,_,_,_,_,_,e5,e6⟩:=MT fi r hg hl dz h;refine⟨e1,_,?_,e5,e6⟩;subst e4;simp only[Instr.beginRound,Sem.run_bind,Cs e2,Result.andThen_ok,Ln e2,e3,Sem.run_pure]
theorem Mc(bV:P.follows .mixedOrders=true)(hc:fQ P B Ye)(hl:∀t a,Yd<|Ye t a)(bM:Fr ρ af b a)(aD:At B ρ s af.nt af.tmps w a)(hf:dE s.nx s1.nx ρ)(h:jg P Ye af s= .ok x s1):nG P B ρ s s1 w af b cs (lone (b.atR a af.todo) cs w) x:=by
 obtain⟨fn,t,nt,todo,d,r⟩:=af;cases todo with
 |nil=>obtain⟨rfl,rfl⟩:=bD (show M.pure (.leave ⟨fn,t,nt,[],d,r⟩ none) s= .ok x s1 from h);exact Cy bM aD rfl rfl ⟨rfl,rfl,rfl⟩ .nil rfl<|Steps.refl _ _
 |cons it k=>
  have hk:jC k:=bM.ok.tail;have pK:IW it:=bM.ok.head;have h':(uX P it).val Ye fn t nt d r k s= .ok x s1:=h;have calm:∀(l:List Item),jC l->M.pure (.go ⟨fn,t,nt,l,d,r⟩) s= .ok x s1->step P (lone (b.atR a<|it::k) cs w)= .next (lone (b.atR a l) cs w)->nG P B ρ s s1 w ⟨fn,t,nt,it::k,d,r⟩ b cs (lone (b.atR a<|it::k) cs w) x:=by intro l mR hp hs;obtain⟨rfl,rfl⟩:=bD hp;exact Cy bM aD rfl rfl ⟨rfl,rfl,rfl⟩ mR trivial<|.one hs
  cases it with
  |code c=>
   cases c with
   |skip=>exact calm k hk h' stepR_skip
   |label l=>exact calm k hk h' stepR_label
   |seq p q=>exact calm (.code p:: .code q::k) (.cons pK.1<|.cons pK.2 hk) h' stepR_seq
   |cond c p q=>
    obtain⟨v,h1,h2⟩:=bt (show(aA (aG t c) fun v=>aA (wT v) fun v=>M.pure<|.go ⟨fn,t,nt,.code (@Bool.rec (fun _=>Code) q p v)::k,d,r⟩) s= .ok x s1 from h');obtain⟨y,h3,h4⟩:=bt h2;have hv:=(Fl aD.tr aD.g h1).S8 h3;cases y with
    |true=>exact calm (.code p::k) (.cons pK.1 hk) h4<|stepR_cond hv
    |false=>exact calm (.code q::k) (.cons pK.2 hk) h4<|stepR_cond hv
   |block id c=>exact calm (.code c:: .inBlock id::k) (.cons pK<|.cons trivial hk) h' stepR_block
   |loop c=>exact calm (.code c:: .inLoop c::k) (.cons pK<|.cons pK hk) h' stepR_loop
   |scope c=>exact calm (.code c:: .inScope c::k) (.cons pK<|.cons pK hk) h' Y7
   |exit id=>
    have h2:Dm id Ye fn t nt d r k s= .ok x s1:=h';unfold Dm at h2;cases e:exitTo id k with
    |some k'=>rw[e] at h2;exact calm k' (LX e hk) h2<|stepR_exit e
    |none=>rw[e] at h2;obtain⟨rfl,rfl⟩:=bD h2;exact Cy bM aD rfl rfl ⟨rfl,rfl,rfl⟩ bM.ok ⟨k,rfl,e⟩<|Steps.refl _ _
   |goto l=>
    have h2:Dn l Ye fn t nt d r k s= .ok x s1:=h';unfold Dn at h2;cases e:gotoIn l k with
    |some k'=>rw[e] at h2;exact calm k' (LY e hk) h2<|stepR_goto e
    |none=>rw[e] at h2;obtain⟨rfl,rfl⟩:=bD h2;exact Cy bM aD rfl rfl ⟨rfl,rfl,rfl⟩ bM.ok ⟨k,rfl,e⟩<|Steps.refl _ _
   |ret=>obtain⟨rfl,rfl⟩:=bD (show M.pure (.leave ⟨fn,t,nt,.code .ret::k,d,r⟩<|some .ret) s= .ok x s1 from h');exact Cy bM aD rfl rfl ⟨rfl,rfl,rfl⟩ bM.ok ⟨k,rfl⟩<|Steps.refl _ _
   |region id ops draw=>
    cases draw with
    |false=>obtain⟨t1,s2,h1,h2⟩:=M.aP (show((jl P Ye nt ops ops.toList t).bind fun t=>M.pure<|.go ⟨fn,t,nt,k,d,r⟩) s= .ok x s1 from h');obtain⟨rfl,rfl⟩:=bD h2;exact Sn bM rfl hk<|Zy hc hl aD hf h1 b k cs
    |true=>obtain⟨t1,s2,h1,h2⟩:=M.aP (show((pW P Ye nt ops t).bind fun t=>M.pure<|.go ⟨fn,t,nt,k,d,r⟩) s= .ok x s1 from h');obtain⟨rfl,rfl⟩:=bD h2;exact Sn bM rfl hk<|Y6 bV (pK rfl) hc hl aD hf h1 b k cs
   |rangeFunc f ps p q=>exact aam hc hl bM aD hf rfl h'
   |refuse why=>cases h'
  |inBlock id=>exact calm k hk h' stepR_inBlock
  |inScope c=>exact calm k hk h' Yx
  |inLoop c=>exact calm (.code c:: .inLoop c::k) (.cons pK<|.cons pK hk) h' stepR_inLoop
  |beginRound=>
   have h2:yP Ye fn t nt d r k s= .ok x s1:=h';unfold yP at h2;cases r with
   |none=>cases h2
   |some l=>
    obtain⟨bl,GS,N0,P2⟩:∃bl,b.roundOf=some bl/\∃N,ρ l=some (bl,N):=by
     have nw:=bM.round;cases e:b.roundOf with
     |none=>rw[e] at nw;cases nw
     |some bl=>rw[e] at nw;exact⟨bl,rfl,nw⟩
    obtain⟨o,s2,h3,h4⟩:=M.aP h2;obtain⟨h5,st,bL,f0,t0,Eg,Eh,a0,b0,d0,rfl⟩:=Cv h3;cases st<;>first|(cases h4;done)|skip
    obtain⟨u,s3,h6,h7⟩:=M.aP h4;obtain⟨rfl,rfl⟩:=bD h7;obtain⟨e1,w',e2,e3,e4⟩:=aan (P:=P) aD.cJ aD.rel P2 h5 h6;have eF:bx s1:=(Yd.bI _ _).cJ ((Yd.bp _).cJ aD.cJ h5) h6;exact⟨ρ,a,w',by rw[e1];exact Ext.refl _ _ _,⟨aD.tr,e3,aD.g,aD.nt,eF⟩,bM.defs,e4,⟨rfl,rfl,rfl⟩,hk,trivial,.one<|stepR_beginRound GS e2⟩
  |_=>cases h'
theorem nG.OJ{fr:AF}{m:Machine}(bM:Fr ρ af b a)(h:nG P B ρ s s2 w af b cs m<|.go fr)(mT:s.nx<=s2.nx)(pJ:s2.nx<=s1.nx)(k:∀(σ:aw) (a':Act) (w':World),Ext s.nx s2.nx ρ σ->Fr σ fr b a'->At B σ s2 fr.nt fr.tmps w' a'->nG P B σ s2 s1 w' fr b cs (lone (b.atR a' fr.todo) cs w') x):nG P B ρ s s1 w af b cs m x:=by obtain⟨σ,a',w',e1,e2,e3,e4,⟨e5,e6,e7⟩,e8,_,e9⟩:=h;have ja:fr.nt=af.nt:=e6;obtain⟨τ,GP,ni,f1,f2,f3,f4,⟨f5,f6,f7⟩,f8,f9,f10⟩:=k σ a' w' e1 ⟨bM.fn.trans e5.symm,bM.kind,by have:=bM.round.mono e1.le;rw[←e7] at this;exact this,e3,e8⟩ (by rw[ja];exact e2);exact⟨τ,GP,ni,e1.trans mT pJ f1,by rw[ja] at f2;exact f2,f3,e4.trans f4,⟨f5.trans e5,f6.trans e6,f7.trans e7⟩,f8,f9,Steps.trans e9 f10⟩
theorem ES(bV:P.follows .mixedOrders=true)(hc:fQ P B Ye)(hl:∀t a,Yd<|Ye t a):∀(n:Nat) {ρ:aw} {w:World} {s s1:AS} {a:Act} {af:AF} {x:br},Fr ρ af b a->At B ρ s af.nt af.tmps w a->dE s.nx s1.nx ρ->
 nA P Ye n af s= .ok x s1->nG P B ρ s s1 w af b cs (lone (b.atR a af.todo) cs w) x
 |0,ρ,w,s,s1,a,af,x,bM,aD,hf,h=>Mc bV hc hl bM aD hf h
 |n+1,ρ,w,s,s1,a,af,x,bM,aD,hf,h=>by
  obtain⟨y,s2,h1,h2⟩:=M.aP (show((nA P Ye n af).bind fun x=> @br.rec (fun _=>M br) (nA P Ye n) (fun fr j=>M.pure<|.leave fr j) x) s= .ok x s1 from h);have mT:=(Yd.nA P hl n af).le aD.cJ h1;have eF:=(Yd.nA P hl n af).cJ aD.cJ h1;cases y with
  |go fr=>have rT:nA P Ye n fr s2= .ok x s1:=h2;have pJ:=(Yd.nA P hl n fr).le eF rT;have w1:=ES bV hc hl n bM aD (hf.sub (Nat.le_refl _) pJ) h1;exact w1.OJ bM mT pJ fun σ a' w' e1 Gd Ge=>ES bV hc hl n Gd Ge (hf.next mT e1) rT
  |leave fr j=>obtain⟨rfl,rfl⟩:=bD (show M.pure (.leave fr j) s2= .ok x s1 from h2);exact ES bV hc hl n bM aD hf h1
theorem Md(bV:P.follows .mixedOrders=true)(hc:fQ P B Ye)(hl:∀t a,Yd<|Ye t a):∀(n k:Nat) {ρ:aw} {w:World} {s s1:AS} {a:Act} {af:AF} {x:br},Fr ρ af b a->At B ρ s af.nt af.tmps w a->dE s.nx s1.nx ρ->
 oA P Ye n k af s= .ok x s1->nG P B ρ s s1 w af b cs (lone (b.atR a af.todo) cs w) x
 |0,k,ρ,w,s,s1,a,af,x,bM,aD,hf,h=>by cases h
 |n+1,k,ρ,w,s,s1,a,af,x,bM,aD,hf,h=>by
  obtain⟨y,s2,h1,h2⟩:=M.aP (show((nA P Ye k af).bind fun x=> @br.rec (fun _=>M br) (fun fr=>oA P Ye n (Nat.succ k) fr) (fun fr j=>M.pure<|.leave fr j) x) s= .ok x s1 from h);have mT:=(Yd.nA P hl k af).le aD.cJ h1;have eF:=(Yd.nA P hl k af).cJ aD.cJ h1;cases y with
  |go fr=>have rT:oA P Ye n (k+1) fr s2= .ok x s1:=h2;have pJ:=(Yd.oA P hl n (k+1) fr).le eF rT;have w1:=ES (b:=b) (cs:=cs) bV hc hl k bM aD (hf.sub (Nat.le_refl _) pJ) h1;exact w1.OJ bM mT pJ fun σ a' w' e1 Gd Ge=>Md bV hc hl n (k+1) Gd Ge (hf.next mT e1) rT
  |leave fr j=>obtain⟨rfl,rfl⟩:=bD (show M.pure (.leave fr j) s2= .ok x s1 from h2);exact ES bV hc hl k bM aD hf h1
end
end Go.Rn
namespace Go.Rn
open Go.RowKit
variable {x:AV} {l bl N:Nat}
section
variable {P:Program} {B:aJ} {ρ:aw} {w:World} {s s1:AS} {Ye:aI}
theorem Lp{nt:Nat}(iZ:nt<=top):∀{ps:List Tmp} {args:List AV} {vs:List Value} {t:Tr AV} {arr:Array Value},TR ρ nt t arr->ay ρ args vs->(∀p∈ps,p<nt)->
 TR ρ nt (jB ps args t) ((ps.zip vs).foldl (fun tmps (t,a)=>tmps.setIfInBounds t a) arr)
 |[],args,vs,t,arr,h,_,_=>by simpa[jB] using h
 |p::ps,[],vs,t,arr,h,hv,_=>by simp only[ay] at hv;subst hv;simpa[jB] using h
 |p::ps,v::args,vs,t,arr,h,hv,hp=>by simp only[ay] at hv;obtain⟨u,us,rfl,h1,h2⟩:=hv;simp only[jB,List.zip_cons_cons,List.foldl_cons];exact Lp iZ (h.set (hp p List.mem_cons_self) iZ h1) h2 fun q hq=>hp q<|List.mem_cons_of_mem _ hq
theorem Rb{j:Option Code}(fi:bx s)(r:Rel B ρ s.h w)(hl:ρ l=some (bl,N))(hj:∀c,j=some c->iu c)(h:endRound l j s= .ok x s1):
 s1.nx=s.nx/\x= .bool j.isNone/\∃w',(Instr.endRound bl j).run P w= .ok (.bool j.isNone) w'/\Rel B ρ s1.h w'/\cH B w w':=by
 unfold endRound at h;obtain⟨o,s2,h1,h2⟩:=M.aP h;obtain⟨h3,st,bL,fn,t,nt,ps,aa,bb,d,rfl⟩:=Cv h1;obtain⟨u,s3,h4,h5⟩:=M.aP h2;obtain⟨rfl,rfl⟩:=bD h5;obtain⟨e1,q,e2,e3,e4,_,_,_,_,_,_,_,e5,e6⟩:=MT fi r h3 hl hj h4;refine⟨e1,rfl,_,?_,e5,e6⟩;cases j<;>simp only[Instr.endRound,Sem.run_bind,Cs e2,Result.andThen_ok,Ln e2,Sem.run_pure]<;>rfl
theorem aao(bV:P.follows .mixedOrders=true)(hc:fQ P B Ye)(hl:∀t a,Yd<|Ye t a){args:List AV}{vs:Array Value}(fi:bx s)(r:Rel B ρ s.h w)(hg:gd ρ)(hf:dE s.nx s1.nx ρ)(h:Az P Ye l args s= .ok x s1)(hv:ay ρ args vs.toList)(B3:ρ l=some (bl,N)):jo P ((Instr.yield bl vs).run P w)<|kh B ρ s s1 w x:=by
 unfold Az at h;obtain⟨o,s2,h1,h2⟩:=M.aP h;obtain⟨h3,st,bL,fn,t,nt,ps,aa,bb,d,rfl⟩:=Cv h1;obtain⟨h4,h5⟩:=cW h2;obtain⟨y,s3,h6,h7⟩:=M.aP h5;obtain⟨q1,q2⟩:=and_true.1 h4;have hlen:=eg.1 q1;have P3:∀p∈ps,p<nt:=fun p hp=>by have:=List.all_eq_true.1 q2 p hp;rw[←blt_eq];exact this
 obtain⟨hx,ki,hh,cM⟩:=fY h3;have eF:bx s2:=(Yd.bp _).cJ fi h3;have bJ:l<top:=Nat.lt_of_lt_of_le hx fi.nx;obtain⟨o',hb,hO,hB⟩:=r.block bJ ki B3;obtain⟨ta,db,M,rfl,yb,iZ,hd,gF⟩:=hO;have NX:(Instr.yield bl vs).run P w= .ok (.round bl fn ((ps.zip vs.toList).foldl (fun tmps (t,a)=>tmps.setIfInBounds t a) ta) aa bb) w:=by
  have ll:¬(vs.size≠ps.toArray.size):=by have:=hv.length;simp at this ⊢;omega
  simp only[Instr.yield,Sem.run_bind,Cs hb,Result.andThen_ok,if_neg ll,Sem.run_pure];rw[←Array.foldl_toList];simp
 rw[NX];intro c cs;cases y with
 |go fr=>cases h7
 |leave fr j=>
  have BZ:endRound l j s3= .ok x s1:=h7;let b:Frame:={(default:Frame) with fn:=fn,kind:=.normal,roundOf:=some bl};let a:Act:={tmps:=(ps.zip vs.toList).foldl (fun tmps (t,a)=>tmps.setIfInBounds t a) ta,defers:=[]};have pJ:=(Yd.oA P hl depth 2 ⟨fn,jB ps args t,nt,[.code aa,.beginRound,.code bb],[],some l⟩).le eF h6;have lG:=(Yd.oA P hl depth 2 ⟨fn,jB ps args t,nt,[.code aa,.beginRound,.code bb],[],some l⟩).cJ eF h6;have GV:=(Yd.endRound l j).le lG BZ;have bM:Fr ρ ⟨fn,jB ps args t,nt,[.code aa,.beginRound,.code bb],[],some l⟩ b a:=⟨rfl,rfl,⟨N,B3⟩,rfl,.cons gF.assign<|.cons trivial<|.cons gF.body .nil⟩;have aD:At B ρ s2 nt (jB ps args t) w a:=⟨Lp iZ yb hv P3,by rw[hh];exact r,hg,iZ,eF⟩;obtain⟨σ,a',w',e1,e2,e3,e4,_,_,e6,e7⟩:=Md (cs:=c::cs) bV hc hl depth 2 bM aD (by rw[cM];exact hf.sub (Nat.le_refl _) GV) h6;have ja:Leaves j fr.todo:=e6;obtain⟨f1,rfl,ni,f2,f3,f4⟩:=Rb (P:=P) lG e2.rel (e1.le _ _ B3) ja.code BZ;refine⟨.bool j.isNone,ni,⟨σ,by rw[f1, ←cM];exact e1,by simp only[VR],f3,e4.trans f4⟩,?_⟩;have sQ:Frame.round bl fn ((ps.zip vs.toList).foldl (fun tmps (t,a)=>tmps.setIfInBounds t a) ta) aa bb .normal=b.atR a [.code aa,.beginRound,.code bb]:=rfl;rw[sQ];refine Steps.trans e7<|.one ?_;show step P (lone (b.atR a' fr.todo) (c::cs) w')=_;unfold Leaves at ja;split at ja
  ·rw[ja];exact stepR_round_end rfl rfl f2
  ·obtain⟨k,e⟩:=ja;rw[e];exact stepR_round_ret rfl rfl f2
  ·obtain⟨k,e,e'⟩:=ja;rw[e];exact stepR_round_exit rfl rfl e' f2
  ·obtain⟨k,e,e'⟩:=ja;rw[e];exact stepR_round_goto rfl rfl e' f2
  ·cases ja
theorem YK{nt:Nat}{t:Tr AV}{tmps:Array Value}{rv:ResultVar}(ht:TR ρ nt t tmps)(fi:bx s)(r:Rel B ρ s.h w)(h:Ay P t rv s= .ok x s1):
 s1.h=s.h/\s1.nx=s.nx/\bx s1/\∃v,(match rv with| .tmp t=>pure (tmps.getD t undef)| .cell a t=>do Go.loadVar t (←asAddr (tmps.getD a undef)):Sem Value).run P w= .ok v w/\VR ρ x v:=by
 cases rv with
 |tmp i=>obtain⟨hx,rfl⟩:=hI (show lift (t.get i) s= .ok x s1 from h);exact⟨rfl,rfl,fi,_,rfl,ht.2 i x hx⟩
 |cell a ty=>
  obtain⟨ad,s2,h1,h2⟩:=M.aP (show((lift (match t.get a with|some x=>addrOf x|none=>none)).bind fun a=>Rn.loadVar P ty a.1 a.2) s= .ok x s1 from h);obtain⟨h3,hs⟩:=hI h1;subst hs;cases P4:t.get a with
  |none=>rw[P4] at h3;cases h3
  |some xa=>
  rw[P4] at h3;obtain⟨b,N,h4,h5⟩:=(ht.2 a xa P4).MO h3;obtain⟨a1,a2,v,a3,a4⟩:=Rh (P:=P) fi r h2 h4;exact⟨a1,a2,(Yd.loadVar P ty _ _).cJ fi h2,v,by simp[h5,asAddr,a3],a4⟩
theorem EF{nt:Nat}{t:Tr AV}{tmps:Array Value}(ht:TR ρ nt t tmps):∀{l:List ResultVar} {vs:List AV} {s s1:AS},bx s->Rel B ρ s.h w->pV P t l s= .ok vs s1->
 s1.h=s.h/\s1.nx=s.nx/\∃us,(l.mapM fun| .tmp t=>pure (tmps.getD t undef)| .cell a t=>do Go.loadVar t (←asAddr (tmps.getD a undef)):Sem<|List Value).run P w= .ok us w/\ay ρ vs us
 |[],vs,s,s1,fi,r,h=>by obtain⟨rfl,rfl⟩:=bD (show M.pure [] s= .ok vs s1 from h);exact⟨rfl,rfl,[],rfl,by simp[ay]⟩
 |rv::l,vs,s,s1,fi,r,h=>by
  obtain⟨v,s2,h1,h2⟩:=M.aP (show((Ay P t rv).bind fun v=>(pV P t l).bind fun vs=>M.pure<|v::vs) s= .ok vs s1 from h);obtain⟨us,s3,h3,h4⟩:=M.aP h2;obtain⟨rfl,rfl⟩:=bD h4;obtain⟨a1,a2,a3,u,a4,a5⟩:=YK ht fi r h1;obtain⟨b1,b2,KF,b3,b4⟩:=EF ht a3 (by rw[a1];exact r) h3;refine⟨b1.trans a1,b2.trans a2,u::KF,?_,?_⟩
  ·rw[List.mapM_cons];simp only[Sem.run_bind,a4,Result.andThen_ok,b3,Sem.run_pure]
  ·simp only[ay];exact⟨u,KF,rfl,a5,b4⟩
theorem EG{fr:Frame}{cs:List Frame}:∀{l:List Nat} {ds:List Deferred} {s s1:AS} {w:World} {u:Unit},bx s->Rel B ρ s.h w->vy ρ l ds->oh l s= .ok u s1->
 s1.nx=s.nx/\bx s1/\∃w',Rel B ρ s1.h w'/\cH B w w'/\∀(fr:Frame) (cs:List Frame),fr.mode≠ .run->fr.defers=ds->Steps P (lone fr cs w) (lone {fr with defers:=[]} cs w')
 |[],ds,s,s1,w,u,fi,r,hd,h=>by obtain⟨_,rfl⟩:=bD (show M.pure () s= .ok u s1 from h);have zT:ds=[]:=hd;subst zT;exact⟨rfl,fi,w,r,cH.refl _ _,fun fr cs _ e=>by rw[←e];exact Steps.refl _ _⟩
 |d::l,ds,s,s1,w,u,fi,r,hd,h=>by
  obtain⟨b,N,ds',rfl,hn,hds⟩:=hd;obtain⟨o,s2,h1,h2⟩:=M.aP (show((bp d).bind fun o=>match o with| .defs=>(bI d none).bind fun _=>oh l|_=>fail) s= .ok u s1 from h);obtain⟨hx,ki,hh,cM⟩:=fY h1;have eF:=(Yd.bp d).cJ fi h1;have bJ:d<top:=Nat.lt_of_lt_of_le hx fi.nx;obtain⟨o',hb,hO,hB⟩:=r.block bJ ki hn;cases o with
  |defs=>
   obtain⟨u2,s3,h3,h4⟩:=M.aP h2;have lG:=(Yd.bI d none).cJ eF h3;obtain⟨_,_,_,i1,i2⟩:=kx h3;have hO':o'= .deferred (some []):=hO;subst hO';obtain⟨g3,g4⟩:=Cu (o':=.deferred none) hb;obtain⟨k1,_⟩:=r.U3 bJ ki rfl rfl hn g3;obtain⟨e1,e2,w',e3,e4,e5⟩:=EG (fr:=fr) (cs:=cs) lG (by rw[i1,hh];exact k1) hds h4;refine⟨by rw[e1,i2,cM],e2,w',e3,(g3.below<|hB rfl).trans e4,fun fr cs hm hdf=>?_⟩;have afY:(Instr.takeDeferred b).run P w= .ok [] {w with heap:=w.heap.setIfInBounds b<|.deferred none}:=by simp[Instr.takeDeferred,getObj,setObj,Sem.run,hb]
   have hs:=step_collected (P:=P) (cs:=cs) hm hdf rfl afY;exact .head hs<|e5 {fr with defers:=[]++ds'} cs hm rfl
  |_=>cases h2
end
end Go.Rn
namespace Go.Rn
open Go.RowKit
variable {x:AV} {vs:Array Value} {args:List AV}
section
variable {P:Program} {B:aJ} {ρ:aw} {w:World} {s s1:AS} {Ye:aI}
theorem Hk(hv:ay ρ args vs.toList)(n:Nat)(hn:max n args.length<=top):TR ρ (max n args.length) (eh args)<|vs++Array.replicate (n - vs.size) undef:=by
 have hlen:=hv.length;simp only[Array.length_toList] at hlen;refine⟨by simp;omega,fun i x hx=>?_⟩;unfold eh at hx;rw[Tr.wq _ _ _ _ aj] at hx;by_cases h:i<args.length
 ·rw[if_pos aj,Nat.sub_zero] at hx;obtain⟨v,h1,h2⟩:=hv.get i x hx;rw[Array.getD_eq_getD_getElem?,Array.getElem?_append_left aj];rw[Array.getElem?_toList] at h1;rw[h1];exact h2
 ·rw[if_neg aj,Tr.get_nil] at hx;cases hx
def I2:List AV->AV
 |[v]=>v
 |l=>.tuple l
def mg:List Value->Value
 |[v]=>v
 |l=>.tuple l.toArray
theorem HK:∀{rs:List AV} {us:List Value},ay ρ rs us->VR ρ (I2 rs) (mg us)
 |[],us,h=>by simp only[ay] at h;subst h;simp only[I2,mg,VR,ay];exact⟨_,rfl,rfl⟩
 |[v],us,h=>by simp only[ay] at h;obtain⟨u,KF,rfl,g1,rfl⟩:=h;exact g1
 |v::v2::rs,us,h=>by simp only[ay] at h;obtain⟨u,KF,rfl,g1,u2,eG,rfl,g3,g4⟩:=h;simp only[I2,mg,VR,ay];exact⟨_,rfl,u,_,rfl,g1,u2,eG,rfl,g3,g4⟩
theorem Hy{rs:List ResultVar}{fr:AF}{j:Option Code}(h:finish P rs fr j s= .ok x s1):
 (j=none\/j=some .ret)/\∃u s4 vs,oh fr.defers s= .ok u s4/\pV P fr.tmps rs s4= .ok vs s1/\x=I2 vs:=by
 unfold finish at h;obtain⟨u,s3,h5,h6⟩:=M.aP h;have PR:s3=s/\(j=none\/j=some .ret):=by
  cases j with
  |none=>exact⟨(bD (show M.pure () s= .ok u s3 from h5)).2,.inl rfl⟩
  |some c=>cases c<;>first|exact⟨(bD (show M.pure () s= .ok u s3 from h5)).2,.inr rfl⟩|cases h5
 obtain⟨hs,hj⟩:=PR;clear h5 h;subst hs;obtain⟨u2,s4,h7,h8⟩:=M.aP h6;obtain⟨vs,s5,h9,gE⟩:=M.aP h8;refine⟨hj,u2,s4,vs,h7,?_⟩;cases vs with
 |nil=>obtain⟨rfl,rfl⟩:=bD (show M.pure (.tuple []) s5= .ok x s1 from gE);exact⟨h9,rfl⟩
 |cons v rs=>
  cases rs with
  |nil=>obtain⟨rfl,rfl⟩:=bD (show M.pure v s5= .ok x s1 from gE);exact⟨h9,rfl⟩
  |cons v2 rs=>obtain⟨rfl,rfl⟩:=bD (show M.pure (.tuple<|v::v2::rs) s5= .ok x s1 from gE);exact⟨h9,rfl⟩
theorem abu(bV:P.follows .mixedOrders=true)(hc:fQ P B Ye)(hl:∀t a,Yd<|Ye t a){f:FuncId}{fn:Func}{body:Code}(cm:P.funcs[f]? =some fn)(cv:fn.body=some body)(dJ:(fn.name == "runtime.NumGoroutine")=false)(dz:iu body)(fi:bx s)(r:Rel B ρ s.h w)(hg:gd ρ)(hf:dE s.nx s1.nx ρ)(h:Dq P f fn.ntmps fn.results.toList body Ye args s= .ok x s1)(hv:ay ρ args vs.toList):jo P ((callFunc f vs).run P w)<|kh B ρ s s1 w x:=by
 have bC:(callFunc f vs).run P w= .ok (.enter f vs) w:=by
  have FX:(program).run P w= .ok P w:=rfl;have hn:fn.name≠ "runtime.NumGoroutine" :=by simpa using dJ
  simp only[callFunc,Sem.run_bind,FX,Result.andThen_ok,cm,dJ,cv];simp
 rw[bC];intro cs;unfold Dq at h;obtain⟨h1,h2⟩:=cW h;have oH:=aL.1 h1;obtain⟨y,s2,h3,h4⟩:=M.aP h2;cases y with
 |go fr=>cases h4
 |leave fr j=>
  have KG:finish P fn.results.toList fr j s2= .ok x s1:=h4;let b:Frame:={(default:Frame) with fn:=f,kind:=.normal,roundOf:=none};let a:Act:={tmps:=vs++Array.replicate (fn.ntmps - vs.size) undef,defers:=[]};have sQ:Frame.enter P f vs .normal=b.atR a [.code body]:=by simp[Frame.enter,Frame.atR,cm,cv,b,a]
  have bM:Fr ρ ⟨f,eh args,max fn.ntmps args.length,[.code body],[],none⟩ b a:=⟨rfl,rfl,trivial,rfl,.cons dz .nil⟩;have aD:At B ρ s (max fn.ntmps args.length) (eh args) w a:=⟨Hk hv _ oH,r,hg,oH,fi⟩;have mT:=(Yd.oA P hl depth 2 ⟨f,eh args,max fn.ntmps args.length,[.code body],[],none⟩).le fi h3;have eF:=(Yd.oA P hl depth 2 ⟨f,eh args,max fn.ntmps args.length,[.code body],[],none⟩).cJ fi h3;obtain⟨hj,u2,s4,rs,h7,h9,hx⟩:=Hy KG;have ahT:∀{l:List Nat} {s s1:AS} {u:Unit},oh l s= .ok u s1->s1.nx=s.nx:=by
   intro l;induction l with
   |nil=>intro s s1 u h;exact congrArg AS.nx (bD (show M.pure () s= .ok u s1 from h)).2
   |cons d l ih=>
    intro s s1 u h;obtain⟨o,s2,q1,q2⟩:=M.aP (show((bp d).bind fun o=>match o with| .defs=>(bI d none).bind fun _=>oh l|_=>fail) s= .ok u s1 from h);cases o with
    |defs=>obtain⟨u2,s3,q3,q4⟩:=M.aP q2;rw[ih q4,(kx q3).2.2.2.2,(fY q1).2.2.2]
    |_=>cases q2
  have ahU:∀{l:List ResultVar} {t:Tr AV} {vs:List AV} {s s1:AS},bx s->pV P t l s= .ok vs s1->s.nx<=s1.nx:=by intro l t vs s s1 fi h;exact(Yd.pV P t l).le fi h
  have n4:=ahT h7;have mU:bx s4:=(Yd.oh _).cJ eF h7;have n5:=ahU mU h9;obtain⟨σ,a',w',e1,e2,e3,e4,⟨e5,B4,ahV⟩,e6,e7,e8⟩:=Md (b:=b) (cs:=cs) bV hc hl depth 2 bM aD (hf.sub (Nat.le_refl _) aj) h3;have nj:Leaves j fr.todo:=e7;obtain⟨d1,d2,w2,d3,d4,d5⟩:=EG (P:=P) (fr:=b) (cs:=cs) eF e2.rel e3 h7;obtain⟨f1,f2,us,f3,f4⟩:=EF (P:=P) (w:=w2) e2.tr mU d3 h9;have BA:Steps P (lone (b.atR a' fr.todo) cs w')<|lone {b.atR a' fr.todo with mode:=.returning} cs w':=by
   rcases hj with rfl|rfl
   ·have e:fr.todo=[]:=nj;rw[e];exact .one<|stepR_end rfl
   ·obtain⟨k,e⟩:=nj;rw[e];exact .one<|stepR_ret rfl
  have tA:=d5 {b.atR a' fr.todo with mode:=.returning} cs iJ rfl;have kD:(results fn a'.tmps).run P w2= .ok (mg us) w2:=by
   unfold results;rw[Array.mapM_eq_mapM_toList];simp only[Sem.run_bind,map_eq_pure_bind,Sem.run_pure];refine Eq.trans (congrArg (fun r:Result (List Value)=>(r.andThen fun a w'=>Result.ok a.toArray w').andThen fun a w'=>Result.ok (if h:a.size=1 then a[0] else Value.tuple a) w') f3) ?_;have:∀l:List Value,(Result.ok (if h:l.toArray.size=1 then l.toArray[0] else Value.tuple l.toArray) w2:Result Value)= .ok (mg l) w2:=by
    intro l
    match l with
    |[]=>rfl
    |[v]=>rfl
    |v::v2::l=>simp[mg]
   exact this us
  refine⟨.returned<|mg us,w2,{b.atR a' fr.todo with mode:=.returning,defers:=[]},⟨_,rfl,?_⟩,?_,rfl,?_⟩
  ·exact⟨σ,by rw[show s1.nx=s2.nx by rw[f2,d1]];exact e1,by rw[hx];exact HK f4,by rw[f1];exact d3,e4.trans d4⟩
  ·rw[sQ];exact Steps.trans e8<|Steps.trans BA tA
  ·exact⟨rfl,rfl,rfl,fn,cm,kD⟩
structure bE (P:Program):Prop where
 mixed:P.follows .mixedOrders=true
 code:∀(f:FuncId) (fn:Func) (body:Code),P.funcs[f]? =some fn->fn.body=some body->iu body
def U7(P:Program)(B:aJ)(iY:FuncId->Nat):Prop:=∀(n:Nat) (f:FuncId),(iY f=1\/iY f=2\/iY f=3)->fQ P B (vu P iY n)->∀(args:List AV) (x:AV) (s s1:AS) (ρ:aw) (w:World) (vs:Array Value),bx s->Rel B ρ s.h w->gd ρ->dE s.nx s1.nx ρ->(D9 P iY f).val (vu P iY n) args s= .ok x s1->ay ρ args vs.toList->jo P ((callFunc f vs).run P w) (kh B ρ s s1 w x)
theorem Tb(hP:bE P){iY:FuncId->Nat}(hw:U7 P B iY):∀(n:Nat),fQ P B (vu P iY n)
 |0=>⟨(fun f args x s s1 ρ w vs _ _ _ _ h _=>by cases h),(fun l b N args x s s1 ρ w vs _ _ _ _ h _ _=>by cases h),(fun n o k x s s1 ρ w _ _ h=>by cases h)⟩
 |n+1=>by
  have ih:=Tb hP hw n;refine⟨fun f args x s s1 ρ w vs fi r hg hf h hv=>?_,fun l b N args x s s1 ρ w vs fi r hg hf h hv hl=>aao hP.mixed ih (Hw P iY n) fi r hg hf h hv hl,fun n o k x s s1 ρ w _ _ h=>by cases h⟩;have h':(D9 P iY f).val (vu P iY n) args s= .ok x s1:=h;by_cases q:iY f=1\/iY f=2\/iY f=3
  ·exact hw n f q ih args x s s1 ρ w vs fi r hg hf h' hv
  ·unfold D9 at h';split at h'
   ·rename_i e;exact absurd (.inr<|.inl e) q
   ·rename_i e;exact absurd (.inr<|.inr e) q
   ·cases e1:P.funcs[f]? with
    |none=>rw[e1] at h';cases h'
    |some fn=>
     rw[e1] at h';cases e2:fn.body with
     |none=>simp only[e2] at h';cases h'
     |some body=>
      simp only[e2] at h';cases e3:(fn.name == "runtime.NumGoroutine") with
      |true=>simp only[e3] at h';cases h'
      |false=>
       simp only[e3] at h';cases e4:Nat.beq (iY f) 1 with
       |true=>exact absurd (.inl<|eg.1 e4) q
       |false=>simp only[e4] at h';exact abu hP.mixed ih (Hw P iY n) e1 e2 e3 (hP.code f fn body e1 e2) fi r hg hf h' hv
end
end Go.Rn
namespace Go.Rn
open Go.RowKit
end Go.Rn
namespace Go.Rn
open Go.RowKit
def Tc(W:World):aw:=fun k=>if k<fN then some (k,match W.heap[k]? with|some (.cells c _ _)=>c.size|_=>0) else none
end Go.Rn
namespace Go.Rn
open Go.RowKit
theorem So{ρ:aw}{e:MapEntry}:∀{left:List<|AV×AV} {l:List MapEntry},dT ρ left l->e∈l->
 ∃x r l',(x,r)∈rj left/\VR ρ x.1 e.key/\VR ρ x.2 e.val/\dT ρ r l'/\l.Perm (e::l')
 |[],l,h,he=>by simp only[dT] at h;subst h;cases he
 |y::ys,l,h,he=>by
  simp only[dT] at h;obtain⟨e0,es,rfl,h1,h2,h3⟩:=h;rcases List.mem_cons.1 he with rfl|he
  ·exact⟨y,ys,es,by simp[rj],h1,h2,h3,List.Perm.refl _⟩
  ·obtain⟨x,r,l',k1,k2,k3,k4,k5⟩:=So h3 he;refine⟨x,y::r,e0::l',?_,k2,k3,?_,?_⟩
   ·simp only[rj,List.mem_cons,List.mem_map];exact .inr ⟨(x,r),k1,rfl⟩
   ·simp only[dT];exact⟨e0,l',rfl,h1,h2,k4⟩
   ·exact(List.Perm.cons e0 k5).trans<|List.Perm.swap e e0 l'
theorem dT.acO{ρ:aw}{left:List<|AV×AV}(h:dT ρ left []):left=[]:=by
 cases left with
 |nil=>rfl
 |cons x xs=>simp only[dT] at h;obtain⟨e,es,h,_⟩:=h;cases h
section
variable {P:Program} {B:aJ} {ρ:aw} {w w':World} {h:Tr ae} {n m:Nat} {es left iS:List<|AV×AV} {ex:Bool} {cur iV:Option<|AV×AV} {b N:Nat}
theorem RI{w1:World}{o:Obj}(hw:w1=w\/w1=w.drew):wX b w<|ChangeMaps.setBlock w1 b o:=by
 have h1:(ChangeMaps.setBlock w1 b o).heap=w.heap.setIfInBounds b o:=by rcases hw with rfl|rfl<;>rfl
 refine⟨?_,?_,?_,by rw[h1];simp,fun k hk=>?_⟩
 ·rcases hw with rfl|rfl<;>rfl
 ·rcases hw with rfl|rfl<;>rfl
 ·rcases hw with rfl|rfl<;>rfl
 ·rw[h1,Array.getElem?_setIfInBounds_ne aj]
theorem ox.next(ty:TypeId)(u:ox ρ w n m es ex left cur):∃b N,ρ n=some (b,N)/\
 ((left=[]/\(Instr.next (.pointer<|some ⟨b,0,none⟩) false ty).run P w= .ok (.tuple #[.bool false]) w)\/
 ∃x r v1 v2 w',(x,r)∈rj left/\VR ρ x.1 v1/\VR ρ x.2 v2/\(Instr.next (.pointer<|some ⟨b,0,none⟩) false ty).run P w= .ok (.tuple #[.bool true,v1,v2]) w'/\wX b w w'/\(∃bm M c sn,ρ m=some (bm,M)/\w'.heap[b]? =some (.mapIter (some bm) c sn c))/\ox ρ w' n m es ex r (some x)):=by
 obtain⟨b,N,bm,M,l,aO,seen,h1,h2,h3,h4,h5,h6,h7,h8,h9⟩:=u;refine⟨b,N,h1,?_⟩;have yc:(leftOf l seen).toList=l.toList.filter fun e=> !seen.contains e.born:=by simp[leftOf]
 obtain⟨l',hp,hq⟩:=h8;rcases run_next_at (P:=P) w ty b bm aO aO seen l aO h3 h4 h5.2 (Nat.le_refl _) with⟨k1,k2⟩|⟨e,he,w1,P5,k2⟩
 ·refine .inl ⟨?_,k2⟩;have:(leftOf l seen).toList=[]:=by apply List.eq_nil_of_length_eq_zero;simpa using k1
  rw[yc] at this;rw[this] at hp;have mR:=hp.symm.eq_nil;subst mR;exact hq.acO
 ·refine .inr ?_;rw[yc] at he;have GM:e∈l':=hp.mem_iff.1 he;obtain⟨x,r,KH,p1,p2,p3,p4,p5⟩:=So hq GM;have cn:bm≠b:=by intro q;subst q;rw[h3] at h4;cases h4
  have gm:(ChangeMaps.setBlock w1 b<|.mapIter (some bm) aO (seen.push e.born) aO).heap[b]? =some (.mapIter (some bm) aO (seen.push e.born) aO):=by
   have bJ:b<w.heap.size:=gR h3;have:(ChangeMaps.setBlock w1 b<|.mapIter (some bm) aO (seen.push e.born) aO).heap=w.heap.setIfInBounds b (.mapIter (some bm) aO (seen.push e.born) aO):=by rcases P5 with rfl|rfl<;>rfl
   rw[this,Array.getElem?_setIfInBounds_self_of_lt bJ]
  refine⟨x,r,e.key,e.val,_,p1,p2,p3,k2,RI P5,⟨bm,M,aO,seen.push e.born,h2,gm⟩,?_⟩;have qy:e∈l.toList:=(List.mem_filter.1 he).1;have Ef:((e::KH).map (·.born)).Nodup:=by have a:((l.toList.filter fun e=> !seen.contains e.born).map (·.born)).Nodup:=(List.filter_sublist.map _).nodup h5.1;exact((hp.trans p5).map _).nodup_iff.1 a
  rw[List.map_cons,List.nodup_cons] at Ef;refine⟨b,N,bm,M,l,aO,seen.push e.born,h1,h2,gm,((RI P5).block bm cn).trans h4,h5,h6,h7,⟨KH,?_,p4⟩,⟨e,qy,by simp,p2,p3⟩⟩;have e1:(l.toList.filter fun x=> !(seen.push e.born).contains x.born)=(l.toList.filter fun x=> !seen.contains x.born).filter fun x=> !(x.born == e.born):=by rw[List.filter_filter];congr 1;funext x;simp only[Array.contains_push];rw[Bool.not_or,Bool.and_comm]
  have e2:(e::KH).filter (fun x=> !(x.born == e.born))=KH:=by
   rw[List.filter_cons];simp only[beq_self_eq_true,Bool.not_true,Bool.false_eq_true,if_false];refine List.filter_eq_self.2 fun x hx=>?_;have:¬x.born=e.born:=by intro q;exact Ef.1 (by rw[←q];exact List.mem_map_of_mem hx)
   simp[this]
  rw[e1];have:=(hp.trans p5).filter fun x=> !(x.born == e.born);rw[e2] at this;exact this
theorem Rel.aew(r:Rel B ρ h w)(ht:n<top)(hg:h.get n=some (.iter m es ex left cur))(hr:ρ n=some (b,N))(hw:wX b w w')(hb:∃bm M c sn,ρ m=some (bm,M)/\w'.heap[b]? =some (.mapIter (some bm) c sn c))(u:ox ρ w' n m es ex iS iV):Rel B ρ (h.put n<|some<|.iter m es ex iS iV) w':=by
 obtain⟨_,_,_,hB⟩:=r.block ht hg hr;obtain⟨pI,fC,_⟩:=r.iter n m es ex left cur ht hg;have rS:m≠n:=by intro e;subst e;rw[hg] at fC;cases fC
 have g:∀k,k<top->(h.put n<|some<|.iter m es ex iS iV).get k=if k=n then some (.iter m es ex iS iV) else h.get k:=fun k hk=>Tr.dk _ _ _ _ ht hk
 have live:∀j,j<top->∀x,(if j=n then some (ae.iter m es ex iS iV) else h.get j)=some x->∃y,h.get j=some y/\(x.di=false->y.di=false):=by
  intro j _ x hx;by_cases e:j=n
  ·subst e;exact⟨_,hg,fun _=>rfl⟩
  ·rw[if_neg e] at hx;exact⟨x,hx,id⟩
 refine⟨?_,?_,?_,by rw[hw.size];exact r.size,?_,r.fz.of (aw.le_refl _) (fun b1 _ hn=>hw.block b1 fun e=>hn n _ N ht hg rfl (by rw[e];exact hr)) (fun b1 _ hn=>hn.sub fun k q hk hq gW=>by
  rw[g k hk] at hq;obtain⟨y,e1,e2⟩:=live k hk q hq;exact⟨y,e1,e2 gW⟩),r.tk.of (aw.le_refl _) (fun k q hk hq xH=>by
  rw[g k hk] at hq;by_cases e:k=n
  ·rw[if_pos e] at hq;cases hq;cases xH
  ·rw[if_neg e] at hq;exact hq) (by rw[hw.size];exact Nat.le_refl _) (fun b1 _ hn=>hw.block b1 fun e=>hn n _ N ht hg rfl (by rw[e];exact hr)) (fun b1 _ hn=>hn.sub fun k q hk hq gW=>by
  rw[g k hk] at hq;obtain⟨y,e1,e2⟩:=live k hk q hq;exact⟨y,e1,e2 gW⟩) fun _ _ _ _ _ e=>e⟩
 ·intro k q hk hq;rw[g k hk] at hq;by_cases e:k=n
  ·subst e;rw[if_pos rfl] at hq;cases hq;obtain⟨bm,M,c,sn,q1,q2⟩:=hb;exact⟨b,N,_,hr,q2,⟨bm,M,c,sn,q1,rfl⟩,fun _=>hB rfl⟩
  ·rw[if_neg e] at hq;obtain⟨b1,N1,o1,h1,h2,h3,h4⟩:=r.is k q hk hq;refine⟨b1,N1,o1,h1,(hw.block b1 fun e2=>?_).trans h2,h3,h4⟩;subst e2;exact e<|r.one k n q _ b1 N1 N hk ht hq hg (.inr rfl) h1 hr
 ·intro k j q q' b1 N1 M1 hk hj hq dS cS h1 h2;rw[g k hk] at hq;rw[g j hj] at dS;obtain⟨y,hy,vM⟩:=live k hk q hq;obtain⟨z,hz,GK⟩:=live j hj q' dS;exact r.one k j y z b1 N1 M1 hk hj hy hz (cS.imp vM GK) h1 h2
 ·intro i m' g9 ju l' c' hi hq;rw[g i hi] at hq;by_cases e:i=n
  ·subst e;rw[if_pos rfl] at hq;cases hq;exact⟨pI,by rw[g m pI,if_neg rS];exact fC,u⟩
  ·rw[if_neg e] at hq;obtain⟨eB,hl,u'⟩:=r.iter i m' g9 ju l' c' hi hq;have J8:m'≠n:=by intro e2;subst e2;rw[hg] at hl;cases hl
   refine⟨eB,by rw[g m' eB,if_neg J8];exact hl,u'.mL hw.block (fun M e2=>e ?_) fun M e2=>J8 ?_⟩
   ·exact r.one i n _ _ b M N hi ht hq hg (.inr rfl) e2 hr
   ·exact r.one m' n _ _ b M N eB ht hl hg (.inr rfl) e2 hr
 ·intro i j m' zP zQ zd zu Kx Ky JE J2 hi hj q1 q2;rw[g i hi] at q1;rw[g j hj] at q2;have Xd:∀k,k<top->∀zP zQ zd zu,(if k=n then some (ae.iter m es ex iS iV) else h.get k)=some (.iter m' zP zQ zd zu)->∃Kx Ky JE J2,h.get k=some (.iter m' Kx Ky JE J2):=by
   intro k _ zP zQ zd zu q;by_cases e:k=n
   ·subst e;rw[if_pos rfl] at q;cases q;exact⟨_,_,_,_,hg⟩
   ·rw[if_neg e] at q;exact⟨_,_,_,_,q⟩
  obtain⟨_,_,_,_,a1⟩:=Xd i hi _ _ _ _ q1;obtain⟨_,_,_,_,a2⟩:=Xd j hj _ _ _ _ q2;exact r.lone i j m' _ _ _ _ _ _ _ _ hi hj a1 a2
theorem Rel.abv{o:ae}{o':Obj}(r:Rel B ρ h w)(ht:m<top)(hg:h.get m=some .kB)(hr:ρ m=some (b,N))(hb:w.heap[b]? =some o')(hO:OR ρ N o o')(BY:o.own=true)(lO:∀i es ex left cur,i<top->h.get i≠some (.iter m es ex left cur)):Rel B ρ (h.put m<|some o) w:=by
 obtain⟨ho,F9⟩:=ae.uz BY;obtain⟨_,_,_,hB⟩:=r.block ht hg hr;have g:∀k,k<top->(h.put m<|some o).get k=if k=m then some o else h.get k:=fun k hk=>Tr.dk _ _ _ _ ht hk
 have live:∀j,j<top->∀x,(if j=m then some o else h.get j)=some x->∃y,h.get j=some y/\(x.di=false->y.di=false):=by
  intro j _ x hx;by_cases e:j=m
  ·subst e;exact⟨_,hg,fun _=>rfl⟩
  ·rw[if_neg e] at hx;exact⟨x,hx,id⟩
 refine⟨?_,?_,?_,r.size,?_,r.fz.of (aw.le_refl _) (fun _ _ _=>rfl) (fun b1 _ hn=>hn.sub fun k q hk hq gW=>by
  rw[g k hk] at hq;obtain⟨y,e1,e2⟩:=live k hk q hq;exact⟨y,e1,e2 gW⟩),r.tk.of (aw.le_refl _) (fun k q hk hq xH=>by
  rw[g k hk] at hq;by_cases e:k=m
  ·rw[if_pos e] at hq;cases hq;rw[F9] at xH;cases xH
  ·rw[if_neg e] at hq;exact hq) (Nat.le_refl _) (fun _ _ _=>rfl) (fun b1 _ hn=>hn.sub fun k q hk hq gW=>by
  rw[g k hk] at hq;obtain⟨y,e1,e2⟩:=live k hk q hq;exact⟨y,e1,e2 gW⟩) fun _ _ _ _ _ e=>e⟩
 ·intro k q hk hq;rw[g k hk] at hq;by_cases e:k=m
  ·subst e;rw[if_pos rfl] at hq;cases hq;exact⟨b,N,_,hr,hb,hO,fun _=>hB rfl⟩
  ·rw[if_neg e] at hq;exact r.is k q hk hq
 ·intro k j q q' b1 N1 M1 hk hj hq dS cS h1 h2;rw[g k hk] at hq;rw[g j hj] at dS;obtain⟨y,hy,vM⟩:=live k hk q hq;obtain⟨z,hz,GK⟩:=live j hj q' dS;exact r.one k j y z b1 N1 M1 hk hj hy hz (cS.imp vM GK) h1 h2
 ·intro i m' g9 ju l' c' hi hq;rw[g i hi] at hq;by_cases e:i=m
  ·subst e;rw[if_pos rfl] at hq;cases hq;simp[ae.plain] at ho
  ·rw[if_neg e] at hq;obtain⟨eB,hl,u'⟩:=r.iter i m' g9 ju l' c' hi hq;have J8:m'≠m:=by intro e2;subst e2;exact lO i _ _ _ _ hi hq
   exact⟨eB,by rw[g m' eB,if_neg J8];exact hl,u'⟩
 ·intro i j m' zP zQ zd zu Kx Ky JE J2 hi hj q1 q2;rw[g i hi] at q1;rw[g j hj] at q2;by_cases e:i=m
  ·rw[if_pos e] at q1;cases q1;simp[ae.plain] at ho
  ·rw[if_neg e] at q1;by_cases e2:j=m
   ·rw[if_pos e2] at q2;cases q2;simp[ae.plain] at ho
   ·rw[if_neg e2] at q2;exact r.lone i j m' _ _ _ _ _ _ _ _ hi hj q1 q2
theorem Rel.ahW(r:Rel B ρ h w)(ht:n<top)(hg:h.get n=some (.iter m es ex left cur)):Rel B ρ ((h.put n none).put m<|some<|mapOf ex es) w:=by
 obtain⟨pI,fC,b,N,bm,M,l,aO,seen,h1,h2,h3,h4,h5,h6,h7,h8,h9⟩:=r.iter n m es ex left cur ht hg;have rS:m≠n:=by intro e;subst e;rw[hg] at fC;cases fC
 have g:∀k,k<top->(h.put n none).get k=if k=n then none else h.get k:=fun k hk=>Tr.dk _ _ _ _ ht hk
 refine(r.drop ht (by rw[hg];simp)).abv pI (by rw[g m pI,if_neg rS];exact fC) h2 h4 ?_ (by cases ex<;>rfl) ?_
 ·cases ex with
  |true=>obtain⟨q1,q2⟩:=h6 rfl;subst q1;exact⟨l,rfl,rfl,q2⟩
  |false=>obtain⟨q1,q2⟩:=h7 rfl;exact⟨l,aO,rfl,q1,h5,q2⟩
 ·intro i g9 ju iS iV hi hq;rw[g i hi] at hq;by_cases e:i=n
  ·rw[if_pos e] at hq;cases hq
  ·rw[if_neg e] at hq;exact e<|r.lone i n m _ _ _ _ _ _ _ _ hi ht hq hg
end
end Go.Rn
namespace Go.Rn
open Go.RowKit
variable {rest:List Oper} {ops:Array Oper} {o:Oper} {k:List Item} {it:Operand}
section
variable {P:Program} {B:aJ} {ρ:aw} {w w1:World} {s s1 s2:AS} {Ye:aI} {b:Frame} {a:Act} {cs:List Frame}
theorem put_defers(a:Act)(dst:Option Tmp)(v:Value):(a.put dst v).defers=a.defers:=by cases dst<;>rfl
theorem Rt{fr:AF}{id:Nat}{t1 t2:Tr AV}{v:Value}(hc:fQ P B Ye)(hl:∀t a,Yd<|Ye t a)(bM:Fr ρ fr b a)(rk:fr.todo= .code (.region id ops false)::k)(nH:ops.toList=o::rest)(KJ:o.guard=none)(hd:∀c,o.op≠ .defer c)(xG:(execOp a.eval o).run P w= .ok (.value v) w1)(BB:cH B w w1)(aD:At B ρ s1 fr.nt t1 w1<|a.put o.dst v)(cM:s1.nx=s.nx)(hf:dE s1.nx s2.nx ρ)(h:jl P Ye fr.nt ops rest t1 s1= .ok t2 s2):
 nG P B ρ s s2 w fr b cs (lone (b.atR a fr.todo) cs w) (.go {fr with tmps:=t2,todo:=k}):=by
 have hw:Region.wanted o (yielded ops a.tmps)=true:=by unfold Region.wanted;rw[KJ]
 have ho:ops[0]? =some o:=by rw[←Array.getElem?_toList,nH];rfl
 have ll:ops.size=rest.length+1:=by rw[←Array.length_toList,nH];rfl
 have hk:jC k:=by have:=bM.ok;rw[rk] at this;exact this.tail
 obtain⟨v',w',⟨rfl,rfl⟩,st⟩:=RE (R:=fun v' w'=>v'=v/\w'=w1) ho hw hd (by unfold jo;rw[xG];exact⟨rfl,rfl⟩) b k cs<|List.range' 1 rest.length;obtain⟨σ,a',w2,e1,e2,e3,e4,e5⟩:=MR hc hl b k cs rest.length 1 rest rfl (by rw[nH];rfl) aD hf h;refine⟨σ,a',w2,by rw[←cM];exact e1,e2,?_,BB.trans e4,⟨rfl,rfl,rfl⟩,hk,trivial,?_⟩
 ·rw[e3,put_defers];exact bM.defs.mono e1.le
 ·rw[rk];refine .head stepR_region ?_;rw[List.range_eq_range',ll,List.range'_succ];exact Steps.trans st e5
theorem Y8{fr:AF}{n:Nat}{ob:ae}(h:qV fr it s= .ok (n,ob) s1):aG fr.tmps it=some (.ptr<|some (n,0))/\bp n s= .ok ob s1:=by
 unfold qV at h;obtain⟨x,s2,h1,h2⟩:=M.aP h;obtain⟨h3,rfl⟩:=hI h1;split at h2
 ·obtain⟨y,s3,h4,h5⟩:=M.aP h2;obtain⟨h6,rfl⟩:=bD h5;cases h6;exact⟨h3,h4⟩
 ·cases h2
theorem YL{fr:AF}(h:yz fr=some (it,o,ops,rest,k)):
 ∃id,fr.todo= .code (.region id ops false)::k/\ops.toList=o::rest/\o.guard=none/\o.op= .next it false:=by
 unfold yz at h;split at h
 ·rename_i id al9 k' rk;split at h
  ·rename_i o' alZ nH;split at h
   ·rename_i it' hg ho;cases h;exact⟨id,rk,nH,hg,ho⟩
   ·cases h
  ·cases h
 ·cases h
end
end Go.Rn
namespace Go.Rn
open Go.RowKit
theorem sameKey_eq{a b:AV}(h:sameKey a b=some true):a=b:=by
 unfold sameKey at h;split at h<;>first|(cases h;done)|skip
 ·rename_i k x k' y;cases hk:decide (k=k') with
  |false=>rw[hk] at h;cases h
  |true=>
   rw[hk] at h;injection h with h
   have e1:=of_decide_eq_true hk;have e2:x=y:=by simpa using h
   rw[e1,e2]
 ·rename_i x y;injection h with h
  obtain⟨x⟩:=x;obtain⟨y⟩:=y;have e:x=y:=by have h':(x == y)=true:=h;exact eq_of_beq h'
  rw[e]
 ·rename_i x y;injection h with h
  have e:x=y:=by simpa using h
  rw[e]
section
variable {P:Program} {B:aJ} {ρ σ:aw} {w w2:World} {s s1 s2:AS}
end
end Go.Rn
namespace Go.Rn
open Go.RowKit
section
variable {P:Program} {B:aJ} {ρ:aw} {w:World} {s s1:AS} {Ye:aI}
end
end Go.Rn
namespace Go.Rn
open Go.RowKit
noncomputable section
def dW(P:Program)(Ye:aI)(k:Nat):AF->M br:= @Nat.rec (fun _=>AF->M br) (fun fr=>M.pure<|.go fr) (fun _ ih fr=>(jg P Ye fr).bind fun x=> @br.rec (fun _=>M br) ih (fun fr j=>M.pure<|.leave fr j) x) k
def sC:List Nat->Code->Code
 |[],c=>c
 |0::l,.seq a _=>sC l a
 |_::l,.seq _ b=>sC l b
 |0::l,.cond _ a _=>sC l a
 |_::l,.cond _ _ b=>sC l b
 |_::l,.block _ b=>sC l b
 |_::l,.loop b=>sC l b
 |_::l,.scope b=>sC l b
 |0::l,.rangeFunc _ _ a _=>sC l a
 |_::l,.rangeFunc _ _ _ b=>sC l b
 |_::_,c=>c
def getAll(h:Tr ae):List Nat->List (Option ae)
 |[]=>[]
 |n::ns=>h.get n::getAll h ns
def Td:List (Option ae)->Bool
 |[]=>true
 |none::l=>Td l
 |some o::l=>match o.plain with
  |true=>Td l
  |false=>false
def NY(m:Nat):List Nat->Bool
 |[]=>true
 |n::l=>match Nat.blt n m with
  |true=>NY m l
  |false=>false
end
theorem LJ{m:Nat}:∀{l:List Nat},NY m l=true->∀n∈l,n<m
 |[],_,n,h=>by cases h
 |a::l,hp,n,h=>by
  unfold NY at hp;split at hp
  ·rename_i e;rcases List.mem_cons.1 h with rfl|h
   ·rw[←blt_eq];exact e
   ·exact LJ hp n h
  ·cases hp
section
variable {P:Program} {B:aJ} {ρ:aw} {w:World} {s s1:AS} {Ye:aI} {b:Frame} {a:Act} {cs:List Frame}
theorem Yd.dW(P:Program){Ye:aI}(bC:∀t a,Yd<|Ye t a):∀(k:Nat) (fr:AF),Yd (dW P Ye k fr)
 |0,fr=>Yd.pure _
 |k+1,fr=>by
  refine Yd.bind (Yd.jg P bC fr) fun x=>?_;cases x with
  |go fr=>exact Yd.dW P bC k fr
  |leave fr j=>exact Yd.pure _
theorem HZ(bV:P.follows .mixedOrders=true)(hc:fQ P B Ye)(hl:∀t a,Yd<|Ye t a):∀(k:Nat) {ρ:aw} {w:World} {s s1:AS} {a:Act} {af:AF} {x:br},Fr ρ af b a->At B ρ s af.nt af.tmps w a->dE s.nx s1.nx ρ->
 dW P Ye k af s= .ok x s1->nG P B ρ s s1 w af b cs (lone (b.atR a af.todo) cs w) x
 |0,ρ,w,s,s1,a,af,x,bM,aD,hf,h=>by obtain⟨rfl,rfl⟩:=bD (show M.pure (.go af) s= .ok x s1 from h);exact Cy bM aD rfl rfl ⟨rfl,rfl,rfl⟩ bM.ok trivial<|Steps.refl _ _
 |k+1,ρ,w,s,s1,a,af,x,bM,aD,hf,h=>by
  obtain⟨y,s2,h1,h2⟩:=M.aP (show((jg P Ye af).bind fun x=> @br.rec (fun _=>M br) (dW P Ye k) (fun fr j=>M.pure<|.leave fr j) x) s= .ok x s1 from h);have mT:=(Yd.jg P hl af).le aD.cJ h1;have eF:=(Yd.jg P hl af).cJ aD.cJ h1;cases y with
  |go fr=>have rT:dW P Ye k fr s2= .ok x s1:=h2;have pJ:=(Yd.dW P hl k fr).le eF rT;have w1:=Mc (b:=b) (cs:=cs) bV hc hl bM aD (hf.sub (Nat.le_refl _) pJ) h1;exact w1.OJ bM mT pJ fun σ a' w' e1 Gd Ge=>HZ bV hc hl k Gd Ge (hf.next mT e1) rT
  |leave fr j=>obtain⟨rfl,rfl⟩:=bD (show M.pure (.leave fr j) s2= .ok x s1 from h2);exact Mc bV hc hl bM aD hf h1
theorem acP{h:Tr ae}{nx:Nat}(hb:Nat.ble nx top=true):bx ⟨h,nx,0,[],[]⟩:=⟨Nat.zero_le _,aL.1 hb⟩
end
end Go.Rn
namespace Go.Rn
open Go.RowKit
variable {J:Nat} {v:Value} {b a:AV}
structure Start (J:Nat) (h0:Tr ae) (ρ:aw) (w:World):Prop where
 g:gd ρ
 free:∀k,J<=k->ρ k=none
 is:∀n o,n<top->h0.get n=some o->o.mK=true/\∃b N o',ρ n=some (b,N)/\w.heap[b]? =some o'/\OR ρ N o o'
theorem Start.rel{h0:Tr ae}{ρ:aw}{w:World}(S:Start J h0 ρ w)(ht:J<=top):Rel (ael w) ρ h0 w:=by
 refine⟨fun n o hn h=>?_,fun n m o p b N M hn hm h1 h2 cS _ _=>?_,fun n m es ex left cur hn h=>?_,fun _ hk=>hk,fun i j m es ex left cur g9 ju iS iV hi _ h1 _=>?_,fun n b sh e=>absurd (S.free _<|Nat.le_trans ht<|fZ n b sh) e,tV.no (fun n k v hn hg=>by have:=(S.is n _ hn hg).1;cases this) ⟨Nat.le_refl _,fun n o hn hg _=>by obtain⟨_,b,N,o',h1,h2,_⟩:=S.is n o hn hg;exact⟨b,N,h1,gR h2⟩⟩⟩
 ·obtain⟨hr,b,N,o',h1,h2,h3⟩:=S.is n o hn h;have hr:=ae.j9 hr;exact⟨b,N,o',h1,h2,h3,fun q=>by rw[hr] at q;cases q⟩
 ·have e1:=ae.j9 (S.is n o hn h1).1;have e2:=ae.j9 (S.is m p hm h2).1;rcases cS with q|q
  ·rw[e1] at q;cases q
  ·rw[e2] at q;cases q
 ·have:=(S.is n _ hn h).1;cases this
 ·have:=(S.is i _ hi h1).1;cases this
section
variable {P:Program} {B:aJ} {ρ:aw} {w:World} {s s1:AS} {Ye:aI}
end
noncomputable section
def DQ(J:Nat):AV->AV->Bool
 | .nilFunc,.nilFunc=>true
 | .func (.func f) [] [],.func (.func g) [] []=>Nat.beq f g
 | .slice none 0 (.known 0),.slice none 0 (.known 0)=>true
 | .U a b c,.U d e f=>and (Nat.beq a d)<|and (Nat.beq b e)<|and (Nat.beq c f)<|and (Nat.blt d J)<|Nat.blt d top
 |x,y=>match sameKey x y with
  |some true=>true
  |_=>false
def Fm(J:Nat)(t u:Tr AV):Nat->Bool
 |0=>true
 |i+1=>match t.get i,u.get i with
  |some a,some b=>and (DQ J a b)<|Fm J t u i
  |_,_=>false
def oo(J:Nat):ae->ae->Bool
 | .ro m t,.ro n u=>and (Nat.beq m n)<|Fm J t u n
 | .th m t,.th n u=>and (Nat.beq m n)<|Fm J t u n
 |_,_=>false
def fH(J:Nat)(h0:Tr ae):List Nat->M Unit
 |[]=>M.pure ()
 |n::ns=>(bp n).bind fun o=>aA (h0.get n) fun p=>aF (oo J o p) <| fH J h0 ns
end
theorem Yd.fH(J:Nat)(h0:Tr ae):∀ns,Yd (fH J h0 ns)
 |[]=>Yd.pure _
 |n::ns=>Yd.bind (Yd.bp n) fun _=>Yd.aA fun _ _=>Yd.aF fun _=>Yd.fH J h0 ns
theorem Te{ρ:aw}(h:DQ J a b=true)(hv:VR ρ a v):VR (fun k=>if k<J then ρ k else none) b v:=by
 unfold DQ at h;split at h
 ·simp only[VR] at hv ⊢;exact hv
 ·rename_i f g;have:f=g:=eg.1 h;subst this;simp only[VR,ay] at hv ⊢;exact hv
 ·simp only[VR] at hv ⊢;exact hv
 ·obtain⟨q1,q2⟩:=and_true.1 h;obtain⟨q3,q4⟩:=and_true.1 q2;obtain⟨q5,q6⟩:=and_true.1 q4;have e1:=eg.1 q1;have e2:=eg.1 q3;have e3:=eg.1 q5;subst e1;subst e2;subst e3;obtain⟨q6,q7⟩:=and_true.1 q6;have bJ:=(blt_eq _ _).mp q6;have gF:=(blt_eq _ _).mp q7;simp only[VR] at hv ⊢;rcases hv with hv|⟨b,sh,c,h1,h2⟩
  ·exact .inl hv
  ·exact .inr ⟨b,sh,c,.inl ⟨by omega,(if_pos bJ).trans<|h1.low aj⟩,h2⟩
 ·split at h
  ·rename_i e;have:=sameKey_eq e;subst this;unfold sameKey at e;split at e<;>first|(cases e;done)|(simp only[VR] at hv ⊢;exact hv)
  ·cases h
theorem LB{J:Nat}{t u:Tr AV}:∀{n:Nat},Fm J t u n=true->∀i,i<n->∃a b,t.get i=some a/\u.get i=some b/\DQ J a b=true
 |0,_,i,hi=>by omega
 |n+1,h,i,hi=>by
  unfold Fm at h;split at h
  ·rename_i a b e1 e2;obtain⟨q1,q2⟩:=and_true.1 h;by_cases q:i=n
   ·subst q;exact⟨a,b,e1,e2,q1⟩
   ·exact LB q2 i aj
  ·cases h
theorem RJ{ρ:aw}(h:DQ J a b=true)(_:VR ρ a v):b.cj=true:=by
 unfold DQ at h;split at h
 ·rfl
 ·rfl
 ·rfl
 ·rfl
 ·split at h
  ·rename_i e;have:=sameKey_eq e;subst this;unfold sameKey at e;split at e<;>first|(cases e;done)|rfl
  ·cases h
theorem ZA{N:Nat}{ρ:aw}{o p:ae}{o':Obj}(h:oo J o p=true)(hO:OR ρ N o o'):p.mK=true/\OR (fun k=>if k<J then ρ k else none) N p o':=by
 unfold oo at h;split at h
 ·rename_i m t n u;obtain⟨q1,q2⟩:=and_true.1 h;have e1:=eg.1 q1;subst e1;obtain⟨c,e,fr,rfl,h1,h2,row⟩:=hO;refine⟨rfl,c,e,fr,rfl,h1,h2,fun i hi=>?_⟩;obtain⟨x,v,a1,a2,a3,a4⟩:=row i hi;obtain⟨a,b,b1,b2,b3⟩:=LB q2 i hi;rw[a1] at b1;cases b1;exact⟨b,v,b2,RJ b3 a4,a3,Te b3 a4⟩
 ·rename_i m t n u;obtain⟨q1,q2⟩:=and_true.1 h;have e1:=eg.1 q1;subst e1;obtain⟨c,e,fr,rfl,row⟩:=hO;refine⟨rfl,c,e,fr,rfl,fun i hi=>?_⟩;obtain⟨x,v,a1,a2,a3,a4⟩:=row i hi;obtain⟨a,b,b1,b2,b3⟩:=LB q2 i hi;rw[a1] at b1;cases b1;exact⟨b,v,b2,RJ b3 a4,a3,Te b3 a4⟩
 ·cases h
theorem uv{J:Nat}{h0:Tr ae}:∀{ns:List Nat} {s s1:AS} {u:Unit},fH J h0 ns s= .ok u s1->s1.h=s.h/\s1.nx=s.nx/\∀n∈ns,n<s.nx/\∃o p,s.h.get n=some o/\h0.get n=some p/\oo J o p=true
 |[],s,s1,u,h=>by obtain⟨_,rfl⟩:=bD (show M.pure () s= .ok u s1 from h);exact⟨rfl,rfl,fun n hn=>by cases hn⟩
 |m::ns,s,s1,u,h=>by
  obtain⟨o,s2,h1,h2⟩:=M.aP (show((bp m).bind fun o=>aA (h0.get m) fun p=>aF (oo J o p) <| fH J h0 ns) s= .ok u s1 from h);obtain⟨a1,a2,a3,a4⟩:=fY h1;obtain⟨p,h3,h4⟩:=bt h2;obtain⟨h5,h6⟩:=cW h4;obtain⟨b1,b2,b3⟩:=uv h6;refine⟨b1.trans a3,b2.trans a4,fun n hn=>?_⟩;rcases List.mem_cons.1 hn with rfl|hn
  ·exact⟨a1,o,p,a2,h3,h5⟩
  ·obtain⟨c1,q1,q2,c2,c3,c4⟩:=b3 n hn;exact⟨by rw[←a4];exact c1,q1,q2,by rw[←a3];exact c2,c3,c4⟩
end Go.Rn
